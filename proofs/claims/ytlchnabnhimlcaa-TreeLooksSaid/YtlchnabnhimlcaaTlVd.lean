/- nacelleref17, walked weakly: Under (exact), New, Make, Remove, Cut. Trees, plain: a node as the document has it, ahead of an operation and behind it. Trees, plain: paths as the document reads them (from their ends); where a path leads, one name after the other. -/
import Derived.Test.YtlchnabnhimlcaaTlUc
set_option linter.unusedSimpArgs false
set_option linter.unusedVariables false
namespace Go.Proofs.Ytlchnabnhimlcaa
open Go Go.RowKit Go.Own
instance {p d : Str} : Decidable (underP p d) := by unfold underP; infer_instance
/-- the document's tree in memory: shape, sizes, blocks that can be read -/
structure RB (s : Ro) (x : RN) (M : Nat) : Prop where
  dl : x.data.length ≤ 80
  pl : x.path.length ≤ M
  few : x.nb ≤ 1000
  bs : ∃ bs : List Int, bs.length = x.nb ∧ SlS s (.slice x.sa x.nb x.sc) 1 x.nb (bs.map fun b => .int .i64 b)
structure ROk (s : Ro) (m : List RN) (M : Nat) : Prop where
  l8 : m.length = 8
  nd : ∀ x ∈ m, RB s x M
theorem RB.mono {s s' : Ro} {x : RN} {M M' : Nat} (h : RB s x M) (hs : s.Le s') (hM : M ≤ M') : RB s' x M' := ⟨h.dl, by have := h.pl; omega, h.few, by
  obtain ⟨bs, h1, h2⟩ := h.bs
  exact ⟨bs, h1, h2.mono hs⟩⟩
theorem ROk.mono {s s' : Ro} {m : List RN} {M M' : Nat} (h : ROk s m M) (hs : s.Le s') (hM : M ≤ M') : ROk s' m M' := ⟨h.l8, fun x hx => (h.nd x hx).mono hs hM⟩
theorem RB.nil {s : Ro} {k : Int} {p : Str} {M : Nat} (hp : p.length ≤ M) : RB s ⟨k, p, [], none, 0, 0⟩ M := ⟨by simp, hp, by simp, [], rfl, SlS.nil s 1⟩
theorem ROk.set {s : Ro} {m : List RN} {M : Nat} (h : ROk s m M) (i : Nat) {x : RN} (hx : RB s x M) : ROk s (m.set i x) M := ⟨by rw [List.length_set, h.l8], fun y hy => by
  rcases List.mem_or_eq_of_mem_set hy with hy | rfl
  · exact h.nd y hy
  · exact hx⟩
theorem ROk.at {s : Ro} {m : List RN} {M : Nat} (h : ROk s m M) {i : Nat} (hi : i < 8) : RB s (rn m i) M := by
  rw [rn_get h.l8 hi]
  exact h.nd _ (List.getElem_mem _)
theorem rcells_all {m : List RN} : (rcells m).all Value.oneCell' = true := List.all_eq_true.2 fun v hv => flat_mem (fun x _ v hv => by
  simp only [RN.cells, List.mem_cons, List.not_mem_nil, or_false] at hv
  rcases hv with rfl | rfl | rfl | rfl <;> rfl) v hv
instance (priority := high) zeroR : ZeroC Try.prog 39 (rcells (List.replicate 8 RN.zero)) := ⟨⟨.agg (rcells (List.replicate 8 RN.zero)).toArray, by kernel_rfl, by kernel_rfl⟩⟩
section
variable {n : Nat} {ops : Array Oper} {Q : Post} {rest : List Oper} {e : Env} {w : World} {s : Ro} {rs R : List Asn} {tt : Nat} {pp : String} {af : Array Edge} {g : Option (Nat × Bool)} {d : Nat}
theorem X.stRc {ty : TypeId} {x y : Operand} [T : OneC Try.prog ty] {b off : Nat} {tp : TypeId} {t : List RN} {f : List Value → List Asn} {v : Value} (i k : Nat) (z : RN) (ht : t.length = 8) (hi : i < 8) (hk : k < 4) (hz : z.cells = (rn t i).cells.set k v) (H : Holds s w rs) (h : ∀ w', Holds s w' (f (rcells (t.set i z))) → L Try.prog n ops Q rest e w') (ho : off = 0 + i * 4 + k := by rfl) (hw : wg n ops g e = true := by rfl) (hx : ev e x = .pointer (some ⟨b, off, none⟩) := by rfl) (V : PutV rs b tp (rcells t) f := by infer_instance) (hy : ev e y = v := by rfl) (h1 : v.oneCell' = true := by rfl) : L Try.prog n ops Q (⟨none, .store ty x y, tt, pp, af, g⟩ :: rest) e w := by
  obtain ⟨j, hj, hf⟩ := V.ix
  subst ho
  exact K.store j H hw hx hj hy h1 (by rw [Nat.blt_eq, rcells_len ht]; omega) (fun w' H' => h w' (by
    have := flatS_set (f := RN.cells) t (fun x _ => rfl) i k v z (by omega) hk (by rw [hz, rn_get ht hi])
    rw [hf, Nat.zero_add, rcells, this] at H'
    exact H'))
theorem X.stR {x y : Operand} {b : Nat} {ty : TypeId} {u v : List RN} {f : List Value → List Asn} (H : Holds s w rs) (h : ∀ w', Holds s w' (f (rcells v)) → L Try.prog n ops Q rest e w') (hw : wg n ops g e = true := by rfl) (hx : ev e x = .pointer (some ⟨b, 0, none⟩) := by rfl) (V : PutV rs b ty (rcells u) f := by infer_instance) (hy : ev e y = .agg (rcells v).toArray := by rfl) (hu : u.length = 8 := by assumption) (hv : v.length = 8 := by assumption) : L Try.prog n ops Q (⟨none, .store 39 x y, tt, pp, af, g⟩ :: rest) e w :=
  X.sta (k := 32) H h hw hx V hy rcells_all (rcells_len hv) (rcells_len hu)
theorem X.stRN {ty : TypeId} {x y : Operand} {k0 : Nat} [T : RowC Try.prog ty k0] {b off : Nat} {tp : TypeId} {t : List RN} {f : List Value → List Asn} (ys : List Value) (i k : Nat) (z : RN) (ht : t.length = 8) (hi : i < 8) (hk : k + ys.length ≤ 4) (hz : z.cells = putL (rn t i).cells k ys) (hn : ys.length = k0) (h1 : ys.all Value.oneCell' = true) (H : Holds s w rs) (h : ∀ w', Holds s w' (f (rcells (t.set i z))) → L Try.prog n ops Q rest e w') (ho : off = 0 + i * 4 + k := by rfl) (hw : wg n ops g e = true := by rfl) (hx : ev e x = .pointer (some ⟨b, off, none⟩) := by rfl) (V : PutV rs b tp (rcells t) f := by infer_instance) (hy : ev e y = .agg ys.toArray := by rfl) : L Try.prog n ops Q (⟨none, .store ty x y, tt, pp, af, g⟩ :: rest) e w := by
  subst ho
  refine X.stp (ys := ys) (rcells (t.set i z)) H h hw hx V hy ?_ h1 hn (by rw [Nat.ble_eq, rcells_len ht]; omega)
  have := flatS_put (f := RN.cells) t (sz := 4) (fun x _ => rfl) i k ys z (by omega) hk (by rw [hz, rn_get ht hi])
  rw [Nat.zero_add, rcells, rcells, ← this, putL, hn]
variable {p q : Str} {m : List RN}
set_option maxRecDepth 100000 in
set_option maxHeartbeats 1000000 in
theorem Under_w (H : Holds s w R) (hp : p.length ≤ 140737488355328) (hq : q.length ≤ 140737488355328) : Calls Try.prog 11 #[.string ⟨p.toArray⟩, .string ⟨q.toArray⟩] w fun e w' => e = .returned (.bool (decide (underP p q))) ∧ Holds s w' R := by
  refine enter Try.func11 rfl Try.ntmps11 rfl ?_
  by_cases h1 : q.length < p.length
  rotate_left
  · repeat' (first | (refine X.lenL ?_) | (refine X.lv H ?_) | (refine X.lw H ?_) | (refine X.lp H ?_) | (refine X.stR H ?_; clear H; (try clear w); intro w H) | (refine X.eqL ?_ ?_ <;> intro hc <;> first | (exfalso; first | exact absurd hc (by assumption) | exact absurd (by assumption) hc) | skip) | refine Z H ?_ | (refine Zc ?_ ?_ <;> intro hc <;> first | (exfalso; omega) | skip) | (refine Y ?_; try change C _ _ _ _ _ _) | (refine Zs H ?_; clear H; (try clear w); intro w H) | (refine Zn H ?_; clear H; (try clear w); intro _ w H) | (refine Ze H ?_; clear H; (try clear w); intro gv w H))
    exact ⟨_, resT rfl, by rw [decide_eq_false (fun h => h1 h.1)]; rfl, H⟩
  by_cases h2 : p.take q.length = q
  rotate_left
  · repeat' (first | (refine X.upto (l := p) q.length ?_ rfl (by omega)) | (refine X.eqL (a := p.take q.length) (b := q) ?_ ?_ <;> intro hc <;> first | (exfalso; exact absurd hc h2) | skip) | (refine X.lenL ?_) | (refine X.lv H ?_) | (refine X.lw H ?_) | (refine X.lp H ?_) | (refine X.stR H ?_; clear H; (try clear w); intro w H) | (refine X.eqL ?_ ?_ <;> intro hc <;> first | (exfalso; first | exact absurd hc (by assumption) | exact absurd (by assumption) hc) | skip) | refine Z H ?_ | (refine Zc ?_ ?_ <;> intro hc <;> first | (exfalso; omega) | skip) | (refine Y ?_; try change C _ _ _ _ _ _) | (refine Zs H ?_; clear H; (try clear w); intro w H) | (refine Zn H ?_; clear H; (try clear w); intro _ w H) | (refine Ze H ?_; clear H; (try clear w); intro gv w H))
    exact ⟨_, resT rfl, by rw [decide_eq_false (fun h => h2 h.2.1)]; rfl, H⟩
  by_cases h3 : (((p[q.length]?.getD 0).toNat : Nat) : Int) = 47
  · have h3' : p[q.length]? = some 47 := by
      rw [List.getElem?_eq_getElem h1] at h3 ⊢
      simp at h3
      congr 1
      exact UInt8.toNat_inj.1 (by rw [show (47 : UInt8).toNat = 47 from rfl]; omega)
    repeat' (first | (refine X.upto (l := p) q.length ?_ rfl (by omega)) | (refine X.eqL (a := p.take q.length) (b := q) ?_ ?_ <;> intro hc <;> first | (exfalso; exact absurd h2 hc) | skip) | (refine X.sidx (l := p) q.length ?_) | (refine X.lenL ?_) | (refine X.lv H ?_) | (refine X.lw H ?_) | (refine X.lp H ?_) | (refine X.stR H ?_; clear H; (try clear w); intro w H) | (refine X.eqL ?_ ?_ <;> intro hc <;> first | (exfalso; first | exact absurd hc (by assumption) | exact absurd (by assumption) hc) | skip) | refine Z H ?_ | (refine Zc ?_ ?_ <;> intro hc <;> first | (exfalso; omega) | skip) | (refine Y ?_; try change C _ _ _ _ _ _) | (refine Zs H ?_; clear H; (try clear w); intro w H) | (refine Zn H ?_; clear H; (try clear w); intro _ w H) | (refine Ze H ?_; clear H; (try clear w); intro gv w H))
    exact ⟨_, resT rfl, by rw [decide_eq_true (show underP p q from ⟨h1, h2, h3'⟩)]; rfl, H⟩
  · repeat' (first | (refine X.upto (l := p) q.length ?_ rfl (by omega)) | (refine X.eqL (a := p.take q.length) (b := q) ?_ ?_ <;> intro hc <;> first | (exfalso; exact absurd h2 hc) | skip) | (refine X.sidx (l := p) q.length ?_) | (refine X.lenL ?_) | (refine X.lv H ?_) | (refine X.lw H ?_) | (refine X.lp H ?_) | (refine X.stR H ?_; clear H; (try clear w); intro w H) | (refine X.eqL ?_ ?_ <;> intro hc <;> first | (exfalso; first | exact absurd hc (by assumption) | exact absurd (by assumption) hc) | skip) | refine Z H ?_ | (refine Zc ?_ ?_ <;> intro hc <;> first | (exfalso; omega) | skip) | (refine Y ?_; try change C _ _ _ _ _ _) | (refine Zs H ?_; clear H; (try clear w); intro w H) | (refine Zn H ?_; clear H; (try clear w); intro _ w H) | (refine Ze H ?_; clear H; (try clear w); intro gv w H))
    exact ⟨_, resT rfl, by rw [decide_eq_false (fun h => h3 (by rw [h.2.2]; rfl))]; rfl, H⟩
end
end Go.Proofs.Ytlchnabnhimlcaa
set_option linter.unusedSimpArgs false
set_option linter.unusedVariables false
namespace Go.Proofs.Ytlchnabnhimlcaa
open Go Go.RowKit Go.Own
structure VN where
  kind : Int
  path : Str
  data : Str
  bs : List Int
def VN.zero : VN := ⟨0, [], [], []⟩
def blks (x : Nd) : List Int := (if x.b0 ≠ 0 then [x.b0] else []) ++ (if x.b1 ≠ 0 then [x.b1] else [])
def nodeV (t : TR) (j : Nat) : VN := ⟨(t.n j).kind, if (t.n j).kind = 0 then [] else full t j, bytesOf t j, blks (t.n j)⟩
theorem bytes_nil {t : TR} {g : Nat} (hs : (t.n g).size ≤ 0) : bytesOf t g = [] := List.eq_nil_of_length_eq_zero (by rw [bytesOf_len]; omega)
theorem nodeV_free {t : TR} (h : WF t) {j : Nat} (hj : j < 8) (hk : (t.n j).kind = 0) : nodeV t j = VN.zero := by
  have hz := (kind_of_good h hj hk).2
  unfold nodeV
  rw [if_pos hk, bytes_nil (by rw [hz]; decide), hz]
  rfl
theorem size_of {t : TR} (h : WF t) {g : Nat} (hg : g < 8) (hk : (t.n g).kind ≠ 2) : (t.n g).size = 0 := by
  by_cases h0 : g = 0
  · subst h0; rw [h.root]; rfl
  · rcases h.nd g (by omega) hg with hz | hG
    · rw [hz]; rfl
    · have := hG.sh
      unfold Shaped at this
      omega
theorem bytes_keep {t t' : TR} (h : WF t) {g : Nat} (hg : g < 8) (hs : (t'.n g).size = (t.n g).size) (hn : ∀ j, (t'.n g).blk j = (t.n g).blk j) (hb : ∀ (j k q : Nat), j < 2 → k < 8 → q < 40 → (t.n g).blk j = (k : Int) + 1 → (t'.b k)[q]? = (t.b k)[q]?) : bytesOf t' g = bytesOf t g := by
  by_cases hk : (t.n g).kind = 2
  · have hsz := file_size h hg hk
    unfold bytesOf
    rw [hs]
    refine List.map_congr_left (fun i hi => ?_)
    have hi' := List.mem_range.1 hi
    have hj : i / 40 < 2 := by omega
    have hp := blk_pos h (file_pos h.root hk) hg hk hj (by have := Nat.div_mul_le_self i 40; omega)
    unfold peekM
    rw [hn, hb (i / 40) ((t.n g).blk (i / 40) - 1).toNat (i % 40) hj (by omega) (Nat.mod_lt _ (by omega)) (by omega)]
  · have := size_of h hg hk
    rw [bytes_nil (by omega), bytes_nil (by omega)]
/-- a node that stays -/
theorem nodeV_keep {t t' : TR} (h : WF t) {g : Nat} (hg : g < 8) (hn : t'.n g = t.n g) (hp : (t.n g).kind ≠ 0 → full t' g = full t g) (hb : ∀ (j k q : Nat), j < 2 → k < 8 → q < 40 → (t.n g).blk j = (k : Int) + 1 → (t'.b k)[q]? = (t.b k)[q]?) : nodeV t' g = nodeV t g := by
  unfold nodeV
  rw [bytes_keep h hg (by rw [hn]) (fun j => by rw [hn]) hb, hn]
  by_cases hk : (t.n g).kind = 0
  · rw [if_pos hk, if_pos hk]
  · rw [if_neg hk, if_neg hk, hp hk]
theorem full_of_sp {t t' : TR} {g : Nat} (h : sp t' g = sp t g) : full t' g = full t g := by unfold full; rw [h]
theorem make_V {t : TR} (h : WF t) {i d : Nat} {k : Int} {nm q : Str} (hi1 : 1 ≤ i) (hi : i < 8) (hz : (t.n i).kind = 0) (hk : k ≠ 0) (hd : d < 8) (hkd : (t.n d).kind ≠ 0) (hq : sp t d ++ 47 :: nm = q) (h' : WF (t.set i ⟨k, (d : Int), nm, 0, 0, 0⟩)) :
    ∀ j, j < 8 → nodeV (t.set i ⟨k, (d : Int), nm, 0, 0, 0⟩) j = if i = j then ⟨k, q, [], []⟩ else nodeV t j := by
  intro j hj
  have hn : ∀ j, (t.set i ⟨k, (d : Int), nm, 0, 0, 0⟩).n j = if i = j then ⟨k, (d : Int), nm, 0, 0, 0⟩ else t.n j := fun j => TR.n_set h.ok hi _ j
  have hdi : i ≠ d := fun e => hkd (by rw [← e, hz])
  have hs : ∀ j, j < 8 → (t.n j).kind ≠ 0 → sp (t.set i ⟨k, (d : Int), nm, 0, 0, 0⟩) j = sp t j := fun j hj hk => sp_same h h' (fun j _ _ hk => by
    rw [hn, if_neg (fun e => hk (by rw [← e, hz]))]
    exact ⟨hk, rfl, rfl⟩) hj hk
  by_cases e : i = j
  · subst e
    rw [if_pos rfl]
    unfold nodeV
    have hni : (t.set i ⟨k, (d : Int), nm, 0, 0, 0⟩).n i = ⟨k, (d : Int), nm, 0, 0, 0⟩ := by rw [hn, if_pos rfl]
    have hu : up (t.set i ⟨k, (d : Int), nm, 0, 0, 0⟩) i = d := by unfold up; rw [hni]; exact Int.toNat_natCast d
    rw [bytes_nil (by rw [hni]; exact Int.le_refl _)]
    unfold full
    rw [if_neg (show ¬ i = 0 by omega), sp_step h' hi (by omega) (by rw [hni]; exact hk), hu, hs d hd hkd, hni, if_neg hk, hq]
    rfl
  · rw [if_neg e]
    refine nodeV_keep h hj (by rw [hn, if_neg e]) (fun hk => full_of_sp (hs j hj hk)) (fun j k q _ _ _ _ => rfl)
theorem empty_n {t : TR} (ht : t.Ok) {f : Nat} (hf : f < 8) (j : Nat) : (emptyM t f).n j = if f = j then { t.n f with size := 0, b0 := 0, b1 := 0 } else t.n j := by
  unfold emptyM
  rw [TR.n_set (ok_clr (ok_clr ht)) hf, n_clr, n_clr]
theorem empty_keep {t : TR} (h : WF t) {f g : Nat} (hf : f < 8) (hg : g < 8) (hne : g ≠ f) {x : Nd} (j k q : Nat) (hj : j < 2) (hk8 : k < 8) (_hq : q < 40) (hb : (t.n g).blk j = (k : Int) + 1) : (((clrM (clrM t (t.n f).b0) (t.n f).b1).set f x).b k)[q]? = (t.b k)[q]? := by
  rw [empty_b h.ok (h.bks f hf) hk8, if_neg]
  have a0 := blk_apart h (i := 0) hf hg (by omega) hj hne (by omega)
  have a1 := blk_apart h (i := 1) hf hg (by omega) hj hne (by omega)
  rw [hb] at a0 a1
  rintro (h | h)
  · exact a0 h.symm
  · exact a1 h.symm
theorem cut_V {t : TR} (h : WF t) {f : Nat} (hf : f < 8) (hk : (t.n f).kind = 2) (h' : WF (emptyM t f)) : ∀ j, j < 8 → nodeV (emptyM t f) j = if f = j then ⟨2, full t f, [], []⟩ else nodeV t j := by
  intro j hj
  have hs : ∀ j, j < 8 → (t.n j).kind ≠ 0 → sp (emptyM t f) j = sp t j := fun j hj hk => sp_same h h' (fun j _ _ hk => by
    rw [empty_n h.ok hf]
    split
    · rename_i e; subst e; exact ⟨hk, rfl, rfl⟩
    · exact ⟨hk, rfl, rfl⟩) hj hk
  by_cases e : f = j
  · subst e
    rw [if_pos rfl]
    have hk0 : (t.n f).kind ≠ 0 := by rw [hk]; decide
    have hn : (emptyM t f).n f = { t.n f with size := 0, b0 := 0, b1 := 0 } := by rw [empty_n h.ok hf, if_pos rfl]
    unfold nodeV
    rw [bytes_nil (by rw [hn]; exact Int.le_refl _), full_of_sp (hs f hf hk0), hn]
    dsimp only
    rw [if_neg hk0, hk]
    rfl
  · rw [if_neg e]
    exact nodeV_keep h hj (by rw [empty_n h.ok hf, if_neg e]) (fun hk => full_of_sp (hs j hj hk)) (empty_keep h hf hj (fun e' => e e'.symm))
theorem remove_V {t : TR} (h : WF t) {f : Nat} (hf1 : 1 ≤ f) (hf : f < 8) (h' : WF ((emptyM t f).set f Nd.zero)) : ∀ j, j < 8 → nodeV ((emptyM t f).set f Nd.zero) j = if f = j then VN.zero else nodeV t j := by
  intro j hj
  have hn : ∀ j, ((emptyM t f).set f Nd.zero).n j = if f = j then Nd.zero else t.n j := fun j => by
    have hok : (emptyM t f).Ok := ok_empty h.ok
    rw [TR.n_set hok hf, empty_n h.ok hf]
    split <;> rfl
  have e0 : (emptyM t f).set f Nd.zero = (clrM (clrM t (t.n f).b0) (t.n f).b1).set f Nd.zero := by
    unfold emptyM
    rw [TR.set, TR.set, List.set_set]
    rfl
  by_cases e : f = j
  · subst e
    rw [if_pos rfl]
    exact nodeV_free h' hf (by rw [hn, if_pos rfl]; rfl)
  · rw [if_neg e]
    refine nodeV_keep h hj (by rw [hn, if_neg e]) (fun hk => full_of_sp ?_) (fun j k q h1 h2 h3 h4 => by rw [e0]; exact empty_keep h hf hj (fun e' => e e'.symm) j k q h1 h2 h3 h4)
    refine (sp_same h' h (fun j hj h0 hk => ?_) hj (by rw [hn, if_neg e]; exact hk)).symm
    rw [hn] at hk ⊢
    split at hk
    · exact absurd rfl hk
    · rename_i e
      rw [if_neg e]
      exact ⟨hk, rfl, rfl⟩
theorem move_V {t t' : TR} (h : WF t) (h' : WF t') {a d : Nat} {nm q : Str} (ha : a < 8) (ha0 : a ≠ 0) (hka : (t.n a).kind ≠ 0) (hd : d < 8) (hkd : (t.n d).kind ≠ 0) (hda : d ≠ a) (hbd : ¬ Below t a d) (hq : sp t d ++ 47 :: nm = q)
    (e' : t' = t.set a { t.n a with parent := (d : Int), name := nm }) : ∀ j, j < 8 → nodeV t' j = { nodeV t j with path := if (t.n j).kind = 0 then [] else if underP (full t j) (full t a) then q ++ (full t j).drop (full t a).length else if j = a then q else full t j } := by
  intro j hj
  have hn : ∀ j, t'.n j = if a = j then { t.n a with parent := (d : Int), name := nm } else t.n j := fun j => by rw [e']; exact TR.n_set h.ok ha _ j
  have hf : (t'.n j).kind = (t.n j).kind ∧ (t'.n j).size = (t.n j).size ∧ (t'.n j).b0 = (t.n j).b0 ∧ (t'.n j).b1 = (t.n j).b1 := by
    rw [hn]
    split
    · rename_i e; subst e; exact ⟨rfl, rfl, rfl, rfl⟩
    · exact ⟨rfl, rfl, rfl, rfl⟩
  unfold nodeV
  dsimp only
  rw [bytes_keep h hj hf.2.1 (fun i => by unfold Nd.blk; rw [hf.2.2.1, hf.2.2.2]) (fun i k q _ _ _ _ => by rw [e']; rfl), hf.1]
  have hb : blks (t'.n j) = blks (t.n j) := by unfold blks; rw [hf.2.2.1, hf.2.2.2]
  rw [hb]
  congr 1
  by_cases hk : (t.n j).kind = 0
  · rw [if_pos hk, if_pos hk]
  · rw [if_neg hk, if_neg hk]
    have hm := sp_move h h' ha ha0 hka hd hkd hda hbd hn hj hk
    have hbu := below_under h ha ha0 hka hj hk
    by_cases h0 : j = 0
    · subst h0
      rw [if_neg (fun hh => below_root h ha0 (hbu.1 hh)), if_neg (fun e => ha0 e.symm)]
      rfl
    · by_cases hB : Below t a j
      · rw [if_pos (hbu.2 hB)]
        have hm := hm.1 hB
        unfold full
        rw [if_neg h0, if_neg h0, if_neg ha0, hm, hq]
      · rw [if_neg (fun hh => hB (hbu.1 hh))]
        have hm := hm.2 hB
        unfold full
        rw [if_neg h0, if_neg h0, hm, hq]
/-- bytes of a file behind a write -/
def splice (s : Str) (o : Nat) (b : Str) : Str := (s ++ List.replicate (o - s.length) 0).take o ++ b ++ (s ++ List.replicate (o - s.length) 0).drop (o + b.length)
theorem splice_len {s b : Str} {o : Nat} : (splice s o b).length = max s.length (o + b.length) := by
  unfold splice
  simp only [List.length_append, List.length_take, List.length_drop, List.length_replicate]
  omega
theorem splice_get {s b : Str} {o i : Nat} (hi : i < max s.length (o + b.length)) : (splice s o b)[i]? = some (if o ≤ i ∧ i < o + b.length then b[i - o]?.getD 0 else if i < s.length then s[i]?.getD 0 else 0) := by
  have hp : ∀ i, i < max s.length o → (s ++ List.replicate (o - s.length) (0 : UInt8))[i]? = some (if i < s.length then s[i]?.getD 0 else 0) := by
    intro i hi
    by_cases h : i < s.length
    · rw [if_pos h, List.getElem?_append_left h, List.getElem?_eq_getElem h]; rfl
    · rw [if_neg h, List.getElem?_append_right (by omega), List.getElem?_replicate, if_pos (by omega)]
  have hl : ((s ++ List.replicate (o - s.length) (0 : UInt8)).take o).length = o := by
    simp only [List.length_append, List.length_take, List.length_replicate]
    omega
  unfold splice
  by_cases h1 : i < o
  · rw [if_neg (by omega), List.append_assoc, List.getElem?_append_left (by omega), List.getElem?_take_of_lt h1, hp i (by omega)]
  · by_cases h2 : i < o + b.length
    · rw [if_pos (by omega), List.append_assoc, List.getElem?_append_right (by omega), List.getElem?_append_left (by omega), hl, List.getElem?_eq_getElem (by omega)]
      rfl
    · rw [if_neg (by omega), List.getElem?_append_right (by rw [List.length_append, hl]; omega), List.length_append, hl, List.getElem?_drop, show o + b.length + (i - (o + b.length)) = i by omega, hp i (by omega)]
theorem write_V {t u : TR} (h : WF t) {f : Nat} (hf : f < 8) (hk : (t.n f).kind = 2) {o : Nat} {l : Str} {qu : Int} (ho : o + l.length ≤ 80) (hl : l.length ≠ 0) (hg : growM t f (most (t.n f).size ((o : Int) + l.length)) qu = some u) (h' : WF (pokesM u f o l)) :
    ∀ j, j < 8 → nodeV (pokesM u f o l) j = if f = j then ⟨2, full t f, splice (bytesOf t f) o l, blks (u.n f)⟩ else nodeV t j := by
  intro j hj
  have hf1 := file_pos h.root hk
  have hsz := file_size h hf hk
  obtain ⟨x0, x1, G⟩ := grown_of h.ok hf hg
  obtain ⟨hu, hub, hus, hun⟩ := growM_facts h.ok hf (bksJ_iff.2 (h.bks f hf)) hg
  have hmo : most (t.n f).size ((o : Int) + l.length) ≤ 80 := by unfold most; split <;> omega
  have hn : ∀ j, j ≠ f → (pokesM u f o l).n j = t.n j := fun j hj => by rw [pokes_n, G.eq, TR.n_set h.ok hf, if_neg (fun e' => hj e'.symm)]
  have hsame : SameP t (pokesM u f o l) := fun j => by
    rw [pokes_n, G.eq, TR.n_set h.ok hf]
    split
    · rename_i e'; subst e'; exact ⟨rfl, rfl, rfl⟩
    · exact ⟨rfl, rfl, rfl⟩
  have hs : ∀ j, j < 8 → (t.n j).kind ≠ 0 → sp (pokesM u f o l) j = sp t j := fun j hj hk => sp_same h h' (fun j _ _ hk => by
    obtain ⟨a, b, c⟩ := hsame j
    exact ⟨by rw [c]; exact hk, a, b⟩) hj hk
  have hblk : ∀ i : Nat, o ≤ i → i < o + l.length → 0 < (u.n f).blk (i / 40) ∧ (u.n f).blk (i / 40) ≤ 8 := by
    intro i h1 h2
    have hj : i / 40 < 2 := by omega
    have b1 := hub _ hj
    have b2 := hun _ hj (by have := Nat.div_mul_le_self i 40; unfold most; split <;> omega)
    omega
  by_cases e : f = j
  · subst e
    rw [if_pos rfl]
    have hk0 : (t.n f).kind ≠ 0 := by rw [hk]; decide
    have hkw : ((pokesM u f o l).n f).kind = 2 := by rw [(hsame f).2.2, hk]
    have hsw : ((pokesM u f o l).n f).size = most (t.n f).size ((o : Int) + l.length) := by rw [pokes_n]; exact hus
    have hlt : (bytesOf t f).length = (t.n f).size.toNat := bytesOf_len
    have hby : bytesOf (pokesM u f o l) f = splice (bytesOf t f) o l := by
      have hlw : (bytesOf (pokesM u f o l) f).length = (most (t.n f).size ((o : Int) + l.length)).toNat := by rw [bytesOf_len, hsw]
      have hml : max (bytesOf t f).length (o + l.length) = (most (t.n f).size ((o : Int) + l.length)).toNat := by
        rw [hlt]; unfold most; split <;> omega
      refine List.ext_getElem? (fun i => ?_)
      by_cases hi : i < (most (t.n f).size ((o : Int) + l.length)).toNat
      · rw [bytesOf_get (by rw [hsw]; exact hi), write_peek h hf1 hf hk hg (by unfold most; split <;> omega) hmo (by unfold most; split <;> omega) (by omega), splice_get (by omega), hlt]
        by_cases h1 : o ≤ i ∧ i < o + l.length
        · rw [if_pos h1, if_pos h1]
        · rw [if_neg h1, if_neg h1]
          by_cases h2 : (i : Int) < (t.n f).size
          · rw [if_pos h2, if_pos (by omega), bytesOf_get (by omega)]
            rfl
          · rw [if_neg h2, if_neg (by omega)]
      · rw [List.getElem?_eq_none (by omega), List.getElem?_eq_none (by rw [splice_len]; omega)]
    unfold nodeV
    rw [hby, hkw, if_neg (by decide), full_of_sp (hs f hf hk0), pokes_n]
  · rw [if_neg e]
    have hne : j ≠ f := fun e' => e e'.symm
    refine nodeV_keep h hj (hn j hne) (fun hk => full_of_sp (hs j hj hk)) (fun i k q hi hk8 hq hb => ?_)
    have hbu : u.b k = t.b k := by rw [G.eq]; rfl
    have hpk : ∀ i : Nat, o ≤ i → i < o + l.length → ¬ ((u.n f).blk (i / 40) = (k : Int) + 1 ∧ i % 40 = q) := by
      rintro i' h1 h2 ⟨e1, _⟩
      have a := blk_apart h' (i := i' / 40) (j := i) hf hj (by omega) hi hne (by rw [hn j hne]; omega)
      rw [hn j hne, pokes_n] at a
      omega
    rw [pokes_other hu hblk hpk, hbu]
end Go.Proofs.Ytlchnabnhimlcaa
set_option linter.unusedSimpArgs false
set_option linter.unusedVariables false
namespace Go.Proofs.Ytlchnabnhimlcaa
open Go Go.RowKit Go.Own
def lastI (p : Str) : Nat := (lastM p).getD 0
theorem lastM_spec : ∀ {p : Str} {j : Nat}, lastM p = some j → p[j]? = some 47 ∧ ∀ k, j < k → p[k]? ≠ some 47
  | [], j, h => by cases h
  | c :: r, j, h => by
    rw [lastM] at h
    cases hr : lastM r with
    | some i =>
      rw [hr] at h
      injection h with h
      subst h
      obtain ⟨a, b⟩ := lastM_spec hr
      refine ⟨by rw [List.getElem?_cons_succ]; exact a, fun k hk => ?_⟩
      obtain ⟨m, rfl⟩ : ∃ m, k = m + 1 := ⟨k - 1, by omega⟩
      rw [List.getElem?_cons_succ]
      exact b m (by omega)
    | none =>
      rw [hr] at h
      dsimp only at h
      split at h
      · rename_i hc
        injection h with h
        subst h
        refine ⟨by rw [hc]; rfl, fun k hk e => ?_⟩
        obtain ⟨m, rfl⟩ : ∃ m, k = m + 1 := ⟨k - 1, by omega⟩
        rw [List.getElem?_cons_succ] at e
        exact lastM_none_no hr _ (List.mem_of_getElem? e) rfl
      · cases h
theorem last_eq {p : Str} {i : Nat} (h1 : i = 0 ∨ p[i]? = some 47) (h2 : ∀ k, i < k → p[k]? ≠ some 47) : i = lastI p := by
  unfold lastI
  cases hp : lastM p with
  | none =>
    rcases h1 with h | h
    · rw [h]; rfl
    · exact absurd rfl (lastM_none_no hp _ (List.mem_of_getElem? h))
  | some j =>
    obtain ⟨a, b⟩ := lastM_spec hp
    show i = j
    rcases Nat.lt_trichotomy i j with h | h | h
    · exact absurd a (h2 j h)
    · exact h
    · rcases h1 with h1 | h1
      · omega
      · exact absurd h1 (b i h)
/-- a path without its last name, and that, as the document cuts it -/
def aboveX (p : Str) : Str × Str := if lastI p = 0 then ([47], p.drop 1) else (p.take (lastI p), p.drop (lastI p + 1))
theorem lastM_head {r : Str} : lastM (47 :: r) = some (match lastM r with | some i => i + 1 | none => 0) := by
  rw [lastM]
  cases lastM r <;> rfl
theorem above_slash {r : Str} : aboveX (47 :: r) = splitM (47 :: r) := by
  unfold aboveX splitM lastI
  rw [lastM_head]
  cases lastM r with
  | none => rfl
  | some i => rfl
theorem above_split {p : Str} (h : isInnerM p = true) : aboveX p = splitM p := by
  obtain ⟨r, rfl, _⟩ := inner_names h
  exact above_slash
theorem root_split {q : Str} (h : isPathM q = true) : q[0]? = some 47 := by
  unfold isPathM at h
  simp only [Bool.or_eq_true, Bool.and_eq_true, decide_eq_true_eq] at h
  rcases h with h | ⟨⟨_, _, h⟩, _⟩
  · rw [h]; rfl
  · exact h
theorem path_names {r : Str} (hr : r ≠ []) (hl : r.length ≤ 71) : isPathM (47 :: r) = true ↔ ∀ x ∈ parts r, isNameM x = true := by
  unfold isPathM
  rw [names_cons hr]
  have h1 : ¬ (47 :: r) = ([47] : Str) := fun e => hr (List.cons.inj e).2
  rw [decide_eq_false h1, Bool.false_or, Bool.and_eq_true, decide_eq_true_eq, List.all_eq_true]
  exact ⟨fun h => h.2, fun h => ⟨⟨by simp, by simp; omega, rfl⟩, h⟩⟩
/-- the document's IsPath, one step -/
theorem isPath_step {p : Str} (hp : p ≠ [47]) : isPathM p = true ↔ (2 ≤ p.length ∧ p.length ≤ 72 ∧ p[0]? = some 47) ∧ ¬ ((aboveX p).1 = [47] ∧ p.length ≠ 1 + (aboveX p).2.length) ∧ isNameM (aboveX p).2 = true ∧ isPathM (aboveX p).1 = true := by
  constructor
  · intro h
    have hin := inner_of h hp
    obtain ⟨h1, h2, h3⟩ := split_names hin
    rw [above_split hin]
    obtain ⟨r, rfl, hr, hl, _⟩ := inner_names hin
    refine ⟨⟨?_, hl, rfl⟩, ?_, h2, h3⟩
    · have : r.length ≠ 0 := fun e => hr (List.eq_nil_of_length_eq_zero e)
      rw [List.length_cons]; omega
    · rintro ⟨e1, e2⟩
      have hf := inner_flat hin
      rw [h1, e1, show namesM [47] = [] from rfl] at hf
      apply e2
      conv => lhs; rw [hf]
      simp
      omega
  · rintro ⟨⟨h1, h2, h3⟩, h4, h5, h6⟩
    cases p with
    | nil => cases h3
    | cons c r =>
      simp at h3
      subst h3
      have hr : r ≠ [] := fun e => hp (by rw [e])
      have hl : r.length ≤ 71 := by simp at h2; omega
      rw [path_names hr hl]
      have hab : aboveX (47 :: r) = splitM (47 :: r) := above_slash
      cases hm : lastM r with
      | none =>
        rw [parts_no (lastM_none_no hm)]
        have : splitM (47 :: r) = ([47], r) := by unfold splitM; rw [lastM_head, hm]; rfl
        rw [hab, this] at h5
        intro x hx
        rw [List.mem_singleton.1 hx]
        exact h5
      | some j =>
        have hs : splitM (47 :: r) = (47 :: r.take j, r.drop (j + 1)) := by unfold splitM; rw [lastM_head, hm]; rfl
        rw [hab, hs] at h4 h5 h6
        dsimp only at h4 h5 h6
        obtain ⟨a, _⟩ := lastM_spec hm
        have hj : j < r.length := (List.getElem?_eq_some_iff.1 a).1
        rw [parts_last r.length r j (Nat.le_refl _) hm]
        by_cases hj0 : j = 0
        · exfalso
          apply h4
          subst hj0
          refine ⟨rfl, ?_⟩
          rw [List.length_drop, List.length_cons]
          omega
        · have ht : r.take j ≠ [] := fun e => by
            have := congrArg List.length e
            rw [List.length_take, List.length_nil] at this
            omega
          rw [path_names ht (by rw [List.length_take]; omega)] at h6
          intro x hx
          rcases List.mem_append.1 hx with hx | hx
          · exact h6 x hx
          · rw [List.mem_singleton.1 hx]
            exact h5
theorem walk_snoc_eq {t : TR} {nm : Str} : ∀ {l : List Str} {a : Int}, walkM t (l ++ [nm]) a = if (walkM t l a).2 ≠ 0 then (0, (walkM t l a).2) else if (t.n (walkM t l a).1.toNat).kind ≠ 1 then (0, 170) else if childM t (walkM t l a).1 nm < 0 then (0, 6) else (childM t (walkM t l a).1 nm, 0)
  | [], a => by
    rw [List.nil_append, walkM, walkM]
    rfl
  | x :: l, a => by
    rw [List.cons_append, walkM, walkM]
    by_cases h1 : (t.n a.toNat).kind ≠ 1
    · rw [if_pos h1, if_pos h1]; rfl
    · rw [if_neg h1, if_neg h1]
      by_cases h2 : childM t a x < 0
      · rw [if_pos h2, if_pos h2]; rfl
      · rw [if_neg h2, if_neg h2]
        exact walk_snoc_eq
theorem find_step {t : TR} {p : Str} (hin : isInnerM p = true) : findM t p = if (findM t (splitM p).1).2 ≠ 0 then (0, (findM t (splitM p).1).2) else if (t.n (findM t (splitM p).1).1.toNat).kind ≠ 1 then (0, 170) else if childM t (findM t (splitM p).1).1 (splitM p).2 < 0 then (0, 6) else (childM t (findM t (splitM p).1).1 (splitM p).2, 0) := by
  obtain ⟨h1, h2, h3⟩ := split_names hin
  have hp : isPathM p = true := by
    unfold isInnerM at hin
    exact (Bool.and_eq_true_iff.1 hin).2
  unfold findM
  rw [if_pos hp, if_pos h3, h1, walk_snoc_eq]
theorem find_root {t : TR} : findM t [47] = (0, 0) := rfl
theorem kind12 {t : TR} (h : WF t) {g : Nat} (hg : g < 8) (hk : (t.n g).kind ≠ 0) : (t.n g).kind = 1 ∨ (t.n g).kind = 2 := by
  by_cases h0 : g = 0
  · subst h0; rw [h.root]; exact .inl rfl
  · have := ((h.nd g (by omega) hg).resolve_left (kind_nz hk)).sh
    unfold Shaped at this
    omega
/-- what a path leads to is a node -/
theorem find_nat {t : TR} (h : WF t) {p : Str} (h0 : (findM t p).2 = 0) : ∃ g : Nat, g < 8 ∧ (t.n g).kind ≠ 0 ∧ findM t p = ((g : Int), 0) := by
  by_cases hp : isPathM p = true
  · by_cases e : p = [47]
    · subst e
      exact ⟨0, by omega, by rw [h.root]; decide, find_root⟩
    · have hs := find_step (t := t) (inner_of hp e)
      rw [hs] at h0
      by_cases h1 : (findM t (splitM p).1).2 ≠ 0
      · rw [if_pos h1] at h0; exact absurd h0 h1
      rw [if_neg h1] at hs h0
      by_cases h2 : (t.n (findM t (splitM p).1).1.toNat).kind ≠ 1
      · rw [if_pos h2] at h0; cases h0
      rw [if_neg h2] at hs h0
      rcases childM_cases t (findM t (splitM p).1).1 (splitM p).2 with hc | ⟨c, hc⟩
      · rw [if_pos (by omega)] at h0; cases h0
      · rw [hc, if_neg (by omega)] at hs
        obtain ⟨g8, hk⟩ := find_lt h hs
        exact ⟨c, g8, hk, hs⟩
  · unfold findM at h0
    rw [if_neg hp] at h0
    cases h0
theorem find_err {t : TR} {p : Str} (h : (findM t p).2 ≠ 0) : findM t p = (0, (findM t p).2) := by
  by_cases hp : isPathM p = true
  · by_cases e : p = [47]
    · subst e; exact absurd rfl h
    · have hs := find_step (t := t) (inner_of hp e)
      rw [hs] at h ⊢
      split
      · rfl
      · rename_i h1
        rw [if_neg h1] at h
        split
        · rfl
        · rename_i h2
          rw [if_neg h2] at h
          split
          · rfl
          · rename_i h3
            rw [if_neg h3] at h
            exact absurd rfl h
  · unfold findM
    rw [if_neg hp]
end Go.Proofs.Ytlchnabnhimlcaa
