/- law17: awake, walked; TreeNumbers. -/
import Derived.Test.YtlchnabnhimlcaaTlTx3
set_option linter.unusedSimpArgs false
set_option linter.unusedVariables false
namespace Go.Proofs.Ytlchnabnhimlcaa
open Go Go.RowKit Go.Own
abbrev sA : Str := [47, 97]
abbrev sAF : Str := [47, 97, 47, 102]
abbrev sAB : Str := [47, 97, 47, 98]
def awt1 : TR := (makeM TR.new sA 1).1
def awt2 : TR := (makeM awt1 sAF 2).1
def awt3 : TR := (writeM awt2 sAF 38 [120, 121, 122] 8).1
theorem aw1_e : (makeM TR.new sA 1).2 = 0 := by decide +kernel
theorem aw2_e : (makeM awt1 sAF 2).2 = 0 := by decide +kernel
theorem aw2_f : findTM awt2 sAF = (2, 0) := by decide +kernel
theorem aw3_e : (writeM awt2 sAF 38 [120, 121, 122] 8).2 = 0 := by decide +kernel
theorem aw3_n : awt3.n 2 = ⟨2, 1, [102], 41, 1, 2⟩ := by decide +kernel
theorem aw3_m : (moveM awt3 sA sAB).2 = 172 := by decide +kernel
theorem aw3_r : (removeM awt3 sA).2 = 172 := by decide +kernel
theorem build_b3 (x y z : Int) (w : World) : (Instr.buildSlice 24 3 [(0, .int .u8 x), (1, .int .u8 y), (2, .int .u8 z)].toArray).run Try.prog w = .ok (.slice (some ⟨w.heap.size, 0, none⟩) 3 3) (w.alloc (.cells [.int .u8 x, .int .u8 y, .int .u8 z].toArray 5)) := by kernel_rfl
theorem build_blk12 (w : World) : (Instr.build 27 ([(0, .int .i64 1), (1, .int .i64 2)] : List (Nat × Value)).toArray).run Try.prog w = .ok (.agg ([.int .i64 1, .int .i64 2] : List Value).toArray) w := by kernel_rfl
/-- []byte("..") of a constant: the row is marked -/
theorem X.convB {n : Nat} {ops : Array Oper} {Q : Post} {rest : List Oper} {e : Env} {w : World} {tt : Nat} {pp : String} {af : Array Edge} {g : Option (Nat × Bool)} {d : Nat} {s : Ro} {rs : List Asn} {x : Operand} {bb m c : Nat} (l : Str) (H : Holds s w (row 5 1 (.slice (some ⟨bb, 0, none⟩) m c) m (u8s l) :: rs)) (h : ∀ w', Holds s w' (brow bb 5 m c l :: rs) → L Try.prog n ops Q rest (upd e d (.slice (some ⟨bb, 0, none⟩) m c)) w') (hw : wg n ops g e = true := by rfl) (hd : Nat.blt d n = true := by rfl) (hx : ev e x = .slice (some ⟨bb, 0, none⟩) m c := by rfl) : L Try.prog n ops Q (⟨some d, .convert 24 24 x, tt, pp, af, g⟩ :: rest) e w := by
  obtain ⟨F1, ⟨hF, hlen, hrw⟩, _, _, hup⟩ := H.upd (i := 0) rfl
  rcases hrw with ⟨hv, _⟩ | ⟨g', cap, cur, hv, _, hg, a1, a2, a3, a4⟩
  · cases hv
  cases hv
  rw [Nat.mul_one] at a3 a4
  have hsh : w.shape? bb = some (5, cur.size) := by unfold World.shape?; rw [hg]
  have hrun : (convert 24 24 (.slice (some ⟨bb, 0, none⟩) m c)).run Try.prog w = .ok (.slice (some ⟨bb, 0, none⟩) m c) (w.freeze ⟨bb, cur.size, none⟩ 1) := by
    simp [convert, run_underlying Try.underlying24, run_underlying Try.underlying5, markStringish, hsh]
  have hnew : (w.freeze ⟨bb, cur.size, none⟩ 1).heap[bb]? = some (.cells cur 5 (cur.size, cur.size + 1)) := by
    unfold World.freeze
    rw [if_neg (by decide)]
    simp [Array.getElem?_modify, hg]
  have hon : Only [bb] w (w.freeze ⟨bb, cur.size, none⟩ 1) := by
    unfold World.freeze
    rw [if_neg (by decide)]
    refine ⟨rfl, rfl, rfl, by simp, fun k _ hs => ?_⟩
    have : bb ≠ k := fun e => hs (by simp [e])
    simp [Array.getElem?_modify, this]
  have hF1 : F1 = [bb] := hF
  subst hF1
  refine L.val (o := ⟨some d, .convert 24 24 x, tt, pp, af, g⟩) _ _ hw hd (run_v (sm := convert 24 24 (ev e x)) rfl (by rw [hx]; exact hrun)) (h _ ?_)
  refine hup (brow bb 5 m c l) _ [bb] ⟨rfl, cur, _, hnew, a1, a2, a3, a4, ?_, Nat.le_refl _⟩ hon (fun k hk => .inl hk)
  rw [u8s_len, Nat.mul_one] at hlen
  exact hlen
section
variable {s : Ro} {w : World} {R : List Asn}
set_option maxRecDepth 100000 in
set_option maxHeartbeats 1000000 in
theorem awake17 (H : Holds s w R) : Calls Try.prog 8 #[] w fun y w' => ∃ s', y = .returned (.bool true) ∧ s.Le s' ∧ Holds s' w' R := by
  have hn := TR.ok_new
  have hz := TR.ok_zero
  have h1 : awt1.Ok := ok_make hn
  have h2 : awt2.Ok := ok_make h1
  have h3 : awt3.Ok := ok_write h2
  have e1 := aw1_e
  have e2 := aw2_e
  have e3 := aw2_f
  have e4 := aw3_e
  have e5 := aw3_m
  have e6 := aw3_r
  have n2 := aw3_n
  refine enter Try.func8 rfl Try.ntmps8 rfl ?_
  repeat' (first | (refine X.lenL ?_) | (refine X.lv H ?_) | (refine X.lp H ?_) | (refine X.ldT H ?_) | (refine X.stT H ?_; clear H; (try clear w); intro w H) | (refine K.build [] _ build_tree0 rfl rfl rfl ?_) | (refine X.eqL ?_ ?_ <;> intro hc <;> first | (exfalso; first | exact absurd hc (by assumption) | exact absurd (by assumption) hc) | skip) | refine Z H ?_ | (refine Zc ?_ ?_ <;> intro hc <;> first | (exfalso; omega) | skip) | (refine Y ?_; try change C _ _ _ _ _ _) | (refine Zs H ?_; clear H; (try clear w); intro w H) | (refine Zn H ?_; clear H; (try clear w); intro _ w H) | (refine Ze H ?_; clear H; (try clear w); intro gv w H))
  (refine X.call (NewT_s H) ?_; (try clear H); rintro _ w ⟨rfl, H⟩; refine ⟨_, rfl, ?_⟩)
  repeat' (first | (refine X.lenL ?_) | (refine X.lv H ?_) | (refine X.lp H ?_) | (refine X.ldT H ?_) | (refine X.stT H ?_; clear H; (try clear w); intro w H) | (refine K.build [] _ build_tree0 rfl rfl rfl ?_) | (refine X.eqL ?_ ?_ <;> intro hc <;> first | (exfalso; first | exact absurd hc (by assumption) | exact absurd (by assumption) hc) | skip) | refine Z H ?_ | (refine Zc ?_ ?_ <;> intro hc <;> first | (exfalso; omega) | skip) | (refine Y ?_; try change C _ _ _ _ _ _) | (refine Zs H ?_; clear H; (try clear w); intro w H) | (refine Zn H ?_; clear H; (try clear w); intro _ w H) | (refine Ze H ?_; clear H; (try clear w); intro gv w H))
  have hM := make_t (p := sA) (k := 1) H hn
  rw [e1, show (makeM TR.new sA 1).1 = awt1 from rfl] at hM
  (refine X.call (hM) ?_; (try clear H); rintro _ w ⟨rfl, H⟩; refine ⟨_, rfl, ?_⟩)
  clear hM
  repeat' (first | (refine X.lenL ?_) | (refine X.lv H ?_) | (refine X.lp H ?_) | (refine X.ldT H ?_) | (refine X.stT H ?_; clear H; (try clear w); intro w H) | (refine K.build [] _ build_tree0 rfl rfl rfl ?_) | (refine X.eqL ?_ ?_ <;> intro hc <;> first | (exfalso; first | exact absurd hc (by assumption) | exact absurd (by assumption) hc) | skip) | refine Z H ?_ | (refine Zc ?_ ?_ <;> intro hc <;> first | (exfalso; omega) | skip) | (refine Y ?_; try change C _ _ _ _ _ _) | (refine Zs H ?_; clear H; (try clear w); intro w H) | (refine Zn H ?_; clear H; (try clear w); intro _ w H) | (refine Ze H ?_; clear H; (try clear w); intro gv w H))
  have hM := make_t (p := sAF) (k := 2) H h1
  rw [e2, show (makeM awt1 sAF 2).1 = awt2 from rfl] at hM
  (refine X.call (hM) ?_; (try clear H); rintro _ w ⟨rfl, H⟩; refine ⟨_, rfl, ?_⟩)
  clear hM
  repeat' (first | (refine X.lenL ?_) | (refine X.lv H ?_) | (refine X.lp H ?_) | (refine X.ldT H ?_) | (refine X.stT H ?_; clear H; (try clear w); intro w H) | (refine K.build [] _ build_tree0 rfl rfl rfl ?_) | (refine X.eqL ?_ ?_ <;> intro hc <;> first | (exfalso; first | exact absurd hc (by assumption) | exact absurd (by assumption) hc) | skip) | refine Z H ?_ | (refine Zc ?_ ?_ <;> intro hc <;> first | (exfalso; omega) | skip) | (refine Y ?_; try change C _ _ _ _ _ _) | (refine Zs H ?_; clear H; (try clear w); intro w H) | (refine Zn H ?_; clear H; (try clear w); intro _ w H) | (refine Ze H ?_; clear H; (try clear w); intro gv w H))
  have hM := Find_s (p := sAF) H h2
  rw [e3] at hM
  (refine X.call (hM) ?_; (try clear H); rintro _ w ⟨rfl, H⟩; refine ⟨_, rfl, ?_⟩)
  clear hM
  repeat' (first | (refine X.lenL ?_) | (refine X.lv H ?_) | (refine X.lp H ?_) | (refine X.ldT H ?_) | (refine X.stT H ?_; clear H; (try clear w); intro w H) | (refine K.build [] _ build_tree0 rfl rfl rfl ?_) | (refine X.eqL ?_ ?_ <;> intro hc <;> first | (exfalso; first | exact absurd hc (by assumption) | exact absurd (by assumption) hc) | skip) | refine Z H ?_ | (refine Zc ?_ ?_ <;> intro hc <;> first | (exfalso; omega) | skip) | (refine Y ?_; try change C _ _ _ _ _ _) | (refine Zs H ?_; clear H; (try clear w); intro w H) | (refine Zn H ?_; clear H; (try clear w); intro _ w H) | (refine Ze H ?_; clear H; (try clear w); intro gv w H))
  refine K.lit [(0, .int .u8 120), (1, .int .u8 121), (2, .int .u8 122)] 5 1 [.int .u8 120, .int .u8 121, .int .u8 122] H (build_b3 _ _ _) rfl rfl rfl rfl (by decide) ?_
  clear H
  intro g2 w H
  refine X.convB [120, 121, 122] H ?_
  clear H
  intro w H
  obtain ⟨s1, hs1, H, hr1⟩ := Holds.fixBrow (l := [120, 121, 122]) H
  repeat' (first | (refine X.lenL ?_) | (refine X.lv H ?_) | (refine X.lp H ?_) | (refine X.ldT H ?_) | (refine X.stT H ?_; clear H; (try clear w); intro w H) | (refine K.build [] _ build_tree0 rfl rfl rfl ?_) | (refine X.eqL ?_ ?_ <;> intro hc <;> first | (exfalso; first | exact absurd hc (by assumption) | exact absurd (by assumption) hc) | skip) | refine Z H ?_ | (refine Zc ?_ ?_ <;> intro hc <;> first | (exfalso; omega) | skip) | (refine Y ?_; try change C _ _ _ _ _ _) | (refine Zs H ?_; clear H; (try clear w); intro w H) | (refine Zn H ?_; clear H; (try clear w); intro _ w H) | (refine Ze H ?_; clear H; (try clear w); intro gv w H))
  have hM := write_t (p := sAF) (l := [120, 121, 122]) (at_ := 38) (quota := 8) H h2 hr1 (by decide)
  rw [e4, show (writeM awt2 sAF 38 [120, 121, 122] 8).1 = awt3 from rfl] at hM
  (refine X.call (hM) ?_; (try clear H); rintro _ w ⟨rfl, H⟩; refine ⟨_, rfl, ?_⟩)
  clear hM
  repeat' (first | (refine X.lenL ?_) | (refine X.lv H ?_) | (refine X.lp H ?_) | (refine X.ldT H ?_) | (refine X.stT H ?_; clear H; (try clear w); intro w H) | (refine K.build [] _ build_tree0 rfl rfl rfl ?_) | (refine X.eqL ?_ ?_ <;> intro hc <;> first | (exfalso; first | exact absurd hc (by assumption) | exact absurd (by assumption) hc) | skip) | refine Z H ?_ | (refine Zc ?_ ?_ <;> intro hc <;> first | (exfalso; omega) | skip) | (refine Y ?_; try change C _ _ _ _ _ _) | (refine Zs H ?_; clear H; (try clear w); intro w H) | (refine Zn H ?_; clear H; (try clear w); intro _ w H) | (refine Ze H ?_; clear H; (try clear w); intro gv w H))
  have hM := move_t (p := sA) (q := sAB) H h3
  rw [e5] at hM
  have h4 : (moveM awt3 sA sAB).1.Ok := ok_move h3
  generalize (moveM awt3 sA sAB).1 = aw4 at *
  (refine X.call (hM) ?_; (try clear H); rintro _ w ⟨rfl, H⟩; refine ⟨_, rfl, ?_⟩)
  clear hM
  repeat' (first | (refine X.lenL ?_) | (refine X.lv H ?_) | (refine X.lp H ?_) | (refine X.ldT H ?_) | (refine X.stT H ?_; clear H; (try clear w); intro w H) | (refine K.build [] _ build_tree0 rfl rfl rfl ?_) | (refine X.eqL ?_ ?_ <;> intro hc <;> first | (exfalso; first | exact absurd hc (by assumption) | exact absurd (by assumption) hc) | skip) | refine Z H ?_ | (refine Zc ?_ ?_ <;> intro hc <;> first | (exfalso; omega) | skip) | (refine Y ?_; try change C _ _ _ _ _ _) | (refine Zs H ?_; clear H; (try clear w); intro w H) | (refine Zn H ?_; clear H; (try clear w); intro _ w H) | (refine Ze H ?_; clear H; (try clear w); intro gv w H))
  have hM := remove_t (p := sA) H h3
  rw [e6] at hM
  have h5 : (removeM awt3 sA).1.Ok := ok_remove h3
  generalize (removeM awt3 sA).1 = aw5 at *
  (refine X.call (hM) ?_; (try clear H); rintro _ w ⟨rfl, H⟩; refine ⟨_, rfl, ?_⟩)
  clear hM
  have c3 := TR.cell h3 (i := 2) (by decide) 3 (.int .i64 41) (by rw [n2]; rfl)
  have c4 := TR.blks h3 (i := 2) (by decide)
  rw [n2] at c4
  change _ = [Value.int .i64 1, Value.int .i64 2] at c4
  repeat' (first | (refine K.iaA (i := 2) rfl rfl rfl rfl rfl (by decide) ?_) | (refine K.build [(0, .int .i64 1), (1, .int .i64 2)] _ build_blk12 rfl rfl rfl ?_) | (refine X.eqA (eq_blk 9998 _ _ _ _) guard_blk ?_) | (refine X.lenL ?_) | (refine X.lv H ?_) | (refine X.lp H ?_) | (refine X.ldT H ?_) | (refine X.stT H ?_; clear H; (try clear w); intro w H) | (refine K.build [] _ build_tree0 rfl rfl rfl ?_) | (refine X.eqL ?_ ?_ <;> intro hc <;> first | (exfalso; first | exact absurd hc (by assumption) | exact absurd (by assumption) hc) | skip) | refine Z H ?_ | (refine Zc ?_ ?_ <;> intro hc <;> first | (exfalso; omega) | skip) | (refine Y ?_; try change C _ _ _ _ _ _) | (refine Zs H ?_; clear H; (try clear w); intro w H) | (refine Zn H ?_; clear H; (try clear w); intro _ w H) | (refine Ze H ?_; clear H; (try clear w); intro gv w H))
  --DBG
  exact ⟨_, resT rfl, s1, rfl, hs1, by exact H.tail.tail.tail.tail⟩
end
end Go.Proofs.Ytlchnabnhimlcaa
