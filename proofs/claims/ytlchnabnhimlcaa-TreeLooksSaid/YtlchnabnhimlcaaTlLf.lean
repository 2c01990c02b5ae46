/- nacelleref17, walked exactly: its tree in memory is a tree's (Doc); at, find, Find, dir, File. nacelleref17, walked weakly: Make, Remove. -/
import Derived.Test.YtlchnabnhimlcaaTlLe
import Derived.Test.YtlchnabnhimlcaaTlVd
set_option linter.unusedSimpArgs false
set_option linter.unusedVariables false
namespace Go.Proofs.Ytlchnabnhimlcaa
open Go Go.RowKit Go.Own
/-- a node in memory is what it should be -/
structure RX (s : Ro) (x : RN) (v : VN) : Prop where
  k : x.kind = v.kind
  p : x.path = v.path
  d : x.data = v.data
  n : x.nb = v.bs.length
  b : SlS s (.slice x.sa x.nb x.sc) 1 x.nb (v.bs.map fun b => .int .i64 b)
theorem RX.mono {s s' : Ro} {x : RN} {v : VN} (h : RX s x v) (hs : s.Le s') : RX s' x v := ⟨h.k, h.p, h.d, h.n, h.b.mono hs⟩
/-- the document's tree in memory is that of a tree -/
structure Doc (s : Ro) (m : List RN) (t : TR) : Prop where
  l8 : m.length = 8
  nd : ∀ i, i < 8 → RX s (rn m i) (nodeV t i)
theorem Doc.mono {s s' : Ro} {m : List RN} {t : TR} (h : Doc s m t) (hs : s.Le s') : Doc s' m t := ⟨h.l8, fun i hi => (h.nd i hi).mono hs⟩
theorem pathFrom_len {t : TR} (h : WF t) : ∀ (f j : Nat) (s : Str), j < 8 → (pathFrom t f (j : Int) s).length ≤ s.length + 9 * f
  | 0, j, s, hj => by rw [pathFrom]; omega
  | f + 1, j, s, hj => by
    rw [pathFrom]
    split
    · omega
    · have hp := h.par j hj
      have e : (t.n j).parent = ((up t j : Nat) : Int) := by unfold up; omega
      have hn : (t.n j).name.length ≤ 8 := by
        by_cases hk : (t.n j).kind = 0
        · rw [(kind_of_good h hj hk).2]; decide
        · by_cases h0 : j = 0
          · subst h0; rw [h.root]; decide
          · exact (isName_ne (h.name hj h0 hk)).2
      rw [Int.toNat_natCast, e]
      refine Nat.le_trans (pathFrom_len h f (up t j) (47 :: (t.n j).name ++ s) (h.up8 j hj)) ?_
      simp only [List.cons_append, List.length_cons, List.length_append]
      omega
theorem full_len {t : TR} (h : WF t) {j : Nat} (hj : j < 8) : (full t j).length ≤ 72 := by
  unfold full
  split
  · decide
  · exact Nat.le_trans (pathFrom_len h 8 j [] hj) (by decide)
theorem bytes_80 {t : TR} (h : WF t) {j : Nat} (hj : j < 8) : (bytesOf t j).length ≤ 80 := by
  rw [bytesOf_len]
  by_cases hk : (t.n j).kind = 2
  · have := file_size h hj hk
    omega
  · have := size_of h hj hk
    omega
theorem blks_len (x : Nd) : (blks x).length ≤ 2 := by
  unfold blks
  split <;> split <;> simp
theorem blks_nblk (x : Nd) : (blks x).length = x.nblk := by
  unfold blks Nd.nblk
  split <;> split <;> simp
theorem Doc.kind {s : Ro} {m : List RN} {t : TR} (h : Doc s m t) {i : Nat} (hi : i < 8) : (rn m i).kind = (t.n i).kind := (h.nd i hi).k
theorem Doc.path {s : Ro} {m : List RN} {t : TR} (h : Doc s m t) {i : Nat} (hi : i < 8) (hk : (t.n i).kind ≠ 0) : (rn m i).path = full t i := by
  rw [(h.nd i hi).p]
  show (if (t.n i).kind = 0 then [] else full t i) = _
  rw [if_neg hk]
theorem Doc.at {s : Ro} {m : List RN} {t : TR} (h : Doc s m t) (p : Str) : atM m p = atT t p := by
  have key : ∀ f i : Nat, i + f ≤ 8 → atFrom m p f i = atTFrom t p f i := by
    intro f
    induction f with
    | zero => intro i _; rfl
    | succ f ih =>
      intro i hi
      rw [atFrom, atTFrom, ih (i + 1) (by omega), h.kind (by omega)]
      by_cases hk : (t.n i).kind ≠ 0
      · rw [h.path (by omega) hk]
      · rw [if_neg (fun hh => hk hh.1), if_neg (fun hh => hk hh.1)]
  exact key 8 0 (by omega)
section
variable {n : Nat} {ops : Array Oper} {Q : Post} {rest : List Oper} {e : Env} {w : World} {s : Ro} {rs R : List Asn} {tt : Nat} {pp : String} {af : Array Edge} {g : Option (Nat × Bool)} {d : Nat}
variable {p : Str} {m : List RN} {t : TR}
set_option maxRecDepth 100000 in
set_option maxHeartbeats 1000000 in
theorem find_nx (hD : Doc s m t) (hW : WF t) : ∀ (n : Nat) (p : Str) (w : World) (R : List Asn), Holds s w R → p.length ≤ n → p.length ≤ 140737488355328 → isPathM p = true → Calls Try.prog 50 #[.agg (rcells m).toArray, .string ⟨p.toArray⟩] w fun e w' => e = .returned (.tuple #[.int .i64 (findM t p).1, .int .i64 (findM t p).2]) ∧ Holds s w' R := by
  have hm := hD.l8
  have hm32 := rcells_len hm
  intro n
  induction n with
  | zero =>
    intro p w R H hn hl hp
    rw [List.eq_nil_of_length_eq_zero (show p.length = 0 by omega)] at hp
    exact absurd hp (by decide)
  | succ n ih =>
    intro p w R H hn hl hp
    have hsl := root_split hp
    refine enter Try.func50 rfl Try.ntmps50 rfl ?_
    by_cases hroot : p = [47]
    · repeat' (first | (refine X.eqL (a := p) (b := [47]) ?_ ?_ <;> intro hc <;> first | (exfalso; exact absurd hroot hc) | skip) | (refine X.lenL ?_) | (refine X.lv H ?_) | (refine X.lw H ?_) | (refine X.lp H ?_) | (refine X.eqL ?_ ?_ <;> intro hc <;> first | (exfalso; first | exact absurd hc (by assumption) | exact absurd (by assumption) hc) | skip) | refine Z H ?_ | (refine Zc ?_ ?_ <;> intro hc <;> first | (exfalso; omega) | skip) | (refine Y ?_; try change C _ _ _ _ _ _) | (refine Zs H ?_; clear H; (try clear w); intro w H) | (refine Zn H ?_; clear H; (try clear w); intro _ w H) | (refine Ze H ?_; clear H; (try clear w); intro gv w H))
      exact ⟨_, resTT rfl, by rw [hroot, find_root]; rfl, H.tail⟩
    have hin := inner_of hp hroot
    have hfs := find_step (t := t) hin
    obtain ⟨_, _, hpa⟩ := split_names hin
    have hat := fun d => at_child (d := d) hW hin
    rw [← above_split hin] at hfs hpa hat
    have hlen : 2 ≤ p.length := by
      rcases p with _ | ⟨a, _ | ⟨b, q⟩⟩
      · cases hsl
      · simp at hsl; subst hsl; exact absurd rfl hroot
      · simp
    repeat' (first | (refine X.eqL (a := p) (b := [47]) ?_ ?_ <;> intro hc <;> first | (exfalso; exact absurd hc hroot) | skip) | (refine X.lenL ?_) | (refine X.lv H ?_) | (refine X.lw H ?_) | (refine X.lp H ?_) | (refine X.eqL ?_ ?_ <;> intro hc <;> first | (exfalso; first | exact absurd hc (by assumption) | exact absurd (by assumption) hc) | skip) | refine Z H ?_ | (refine Zc ?_ ?_ <;> intro hc <;> first | (exfalso; omega) | skip) | (refine Y ?_; try change C _ _ _ _ _ _) | (refine Zs H ?_; clear H; (try clear w); intro w H) | (refine Zn H ?_; clear H; (try clear w); intro _ w H) | (refine Ze H ?_; clear H; (try clear w); intro gv w H))
    (refine X.call (Above_x (p := p) H (by omega) hl) ?_; (try clear H); rintro _ w ⟨rfl, H⟩; refine ⟨_, rfl, ?_⟩)
    have hlt := above_lt (lastI_lt (p := p) (by omega)) (by omega)
    generalize (aboveX p).1 = ab at *
    generalize (aboveX p).2 = nm at *
    repeat' (first | (refine X.lenL ?_) | (refine X.lv H ?_) | (refine X.lw H ?_) | (refine X.lp H ?_) | (refine X.eqL ?_ ?_ <;> intro hc <;> first | (exfalso; first | exact absurd hc (by assumption) | exact absurd (by assumption) hc) | skip) | refine Z H ?_ | (refine Zc ?_ ?_ <;> intro hc <;> first | (exfalso; omega) | skip) | (refine Y ?_; try change C _ _ _ _ _ _) | (refine Zs H ?_; clear H; (try clear w); intro w H) | (refine Zn H ?_; clear H; (try clear w); intro _ w H) | (refine Ze H ?_; clear H; (try clear w); intro gv w H))
    (refine X.call (ih ab _ _ H (by omega) (by omega) hpa) ?_; (try clear H); rintro _ w ⟨rfl, H⟩; refine ⟨_, rfl, ?_⟩)
    by_cases her : (findM t ab).2 = 0
    rotate_left
    · rw [if_pos her] at hfs
      repeat' (first | (refine X.lenL ?_) | (refine X.lv H ?_) | (refine X.lw H ?_) | (refine X.lp H ?_) | (refine X.eqL ?_ ?_ <;> intro hc <;> first | (exfalso; first | exact absurd hc (by assumption) | exact absurd (by assumption) hc) | skip) | refine Z H ?_ | (refine Zc ?_ ?_ <;> intro hc <;> first | (exfalso; omega) | skip) | (refine Y ?_; try change C _ _ _ _ _ _) | (refine Zs H ?_; clear H; (try clear w); intro w H) | (refine Zn H ?_; clear H; (try clear w); intro _ w H) | (refine Ze H ?_; clear H; (try clear w); intro gv w H))
      exact ⟨_, resTT rfl, by rw [hfs]; rfl, H.tail⟩
    rw [if_neg (by simpa using her)] at hfs
    obtain ⟨k, hk, hkk, hfk⟩ := find_nat hW her
    rw [hfk] at hfs her ⊢
    rw [Int.toNat_natCast] at hfs
    have c0 := rcell hm hk 0 _ rfl
    have hkd := hD.kind hk
    have h12 := kind12 hW hk hkk
    by_cases hk2 : (rn m k).kind = 2
    · rw [if_pos (by omega)] at hfs
      repeat' (first | (refine K.iaA (i := k) rfl rfl rfl rfl rfl hk ?_) | (refine X.lenL ?_) | (refine X.lv H ?_) | (refine X.lw H ?_) | (refine X.lp H ?_) | (refine X.eqL ?_ ?_ <;> intro hc <;> first | (exfalso; first | exact absurd hc (by assumption) | exact absurd (by assumption) hc) | skip) | refine Z H ?_ | (refine Zc ?_ ?_ <;> intro hc <;> first | (exfalso; omega) | skip) | (refine Y ?_; try change C _ _ _ _ _ _) | (refine Zs H ?_; clear H; (try clear w); intro w H) | (refine Zn H ?_; clear H; (try clear w); intro _ w H) | (refine Ze H ?_; clear H; (try clear w); intro gv w H))
      exact ⟨_, resTT rfl, by rw [hfs]; rfl, H.tail⟩
    rw [if_neg (by omega)] at hfs
    have hat := (hD.at p).trans (hat k hfk)
    repeat' (first | (refine K.iaA (i := k) rfl rfl rfl rfl rfl hk ?_) | (refine X.lenL ?_) | (refine X.lv H ?_) | (refine X.lw H ?_) | (refine X.lp H ?_) | (refine X.eqL ?_ ?_ <;> intro hc <;> first | (exfalso; first | exact absurd hc (by assumption) | exact absurd (by assumption) hc) | skip) | refine Z H ?_ | (refine Zc ?_ ?_ <;> intro hc <;> first | (exfalso; omega) | skip) | (refine Y ?_; try change C _ _ _ _ _ _) | (refine Zs H ?_; clear H; (try clear w); intro w H) | (refine Zn H ?_; clear H; (try clear w); intro _ w H) | (refine Ze H ?_; clear H; (try clear w); intro gv w H))
    (refine X.call (at_w (p := p) H hm) ?_; (try clear H); rintro _ w ⟨rfl, H⟩; refine ⟨_, rfl, ?_⟩)
    rw [← hat] at hfs
    by_cases hneg : atM m p < 0
    · rw [if_pos hneg] at hfs
      repeat' (first | (refine X.lenL ?_) | (refine X.lv H ?_) | (refine X.lw H ?_) | (refine X.lp H ?_) | (refine X.eqL ?_ ?_ <;> intro hc <;> first | (exfalso; first | exact absurd hc (by assumption) | exact absurd (by assumption) hc) | skip) | refine Z H ?_ | (refine Zc ?_ ?_ <;> intro hc <;> first | (exfalso; omega) | skip) | (refine Y ?_; try change C _ _ _ _ _ _) | (refine Zs H ?_; clear H; (try clear w); intro w H) | (refine Zn H ?_; clear H; (try clear w); intro _ w H) | (refine Ze H ?_; clear H; (try clear w); intro gv w H))
      exact ⟨_, resTT rfl, by rw [hfs]; rfl, H.tail⟩
    · rw [if_neg hneg] at hfs
      repeat' (first | (refine X.lenL ?_) | (refine X.lv H ?_) | (refine X.lw H ?_) | (refine X.lp H ?_) | (refine X.eqL ?_ ?_ <;> intro hc <;> first | (exfalso; first | exact absurd hc (by assumption) | exact absurd (by assumption) hc) | skip) | refine Z H ?_ | (refine Zc ?_ ?_ <;> intro hc <;> first | (exfalso; omega) | skip) | (refine Y ?_; try change C _ _ _ _ _ _) | (refine Zs H ?_; clear H; (try clear w); intro w H) | (refine Zn H ?_; clear H; (try clear w); intro _ w H) | (refine Ze H ?_; clear H; (try clear w); intro gv w H))
      (refine X.call (at_w (p := p) H hm) ?_; (try clear H); rintro _ w ⟨rfl, H⟩; refine ⟨_, rfl, ?_⟩)
      repeat' (first | (refine X.lenL ?_) | (refine X.lv H ?_) | (refine X.lw H ?_) | (refine X.lp H ?_) | (refine X.eqL ?_ ?_ <;> intro hc <;> first | (exfalso; first | exact absurd hc (by assumption) | exact absurd (by assumption) hc) | skip) | refine Z H ?_ | (refine Zc ?_ ?_ <;> intro hc <;> first | (exfalso; omega) | skip) | (refine Y ?_; try change C _ _ _ _ _ _) | (refine Zs H ?_; clear H; (try clear w); intro w H) | (refine Zn H ?_; clear H; (try clear w); intro _ w H) | (refine Ze H ?_; clear H; (try clear w); intro gv w H))
      exact ⟨_, resTT rfl, by rw [hfs]; rfl, H.tail⟩
set_option maxRecDepth 100000 in
set_option maxHeartbeats 1000000 in
theorem Find_x (H : Holds s w R) (hD : Doc s m t) (hW : WF t) (hl : p.length ≤ 140737488355328) : Calls Try.prog 20 #[.agg (rcells m).toArray, .string ⟨p.toArray⟩] w fun e w' => e = .returned (.tuple #[.int .i64 (findM t p).1, .int .i64 (findM t p).2]) ∧ Holds s w' R := by
  have hm := hD.l8
  have hm32 := rcells_len hm
  refine enter Try.func20 rfl Try.ntmps20 rfl ?_
  repeat' (first | (refine X.lenL ?_) | (refine X.lv H ?_) | (refine X.lw H ?_) | (refine X.lp H ?_) | (refine X.eqL ?_ ?_ <;> intro hc <;> first | (exfalso; first | exact absurd hc (by assumption) | exact absurd (by assumption) hc) | skip) | refine Z H ?_ | (refine Zc ?_ ?_ <;> intro hc <;> first | (exfalso; omega) | skip) | (refine Y ?_; try change C _ _ _ _ _ _) | (refine Zs H ?_; clear H; (try clear w); intro w H) | (refine Zn H ?_; clear H; (try clear w); intro _ w H) | (refine Ze H ?_; clear H; (try clear w); intro gv w H))
  (refine X.call (IsPath_x (p := p) H hl) ?_; (try clear H); rintro _ w ⟨rfl, H⟩; refine ⟨_, rfl, ?_⟩)
  by_cases hb : isPathM p = true
  · rw [hb]
    repeat' (first | (refine X.lenL ?_) | (refine X.lv H ?_) | (refine X.lw H ?_) | (refine X.lp H ?_) | (refine X.eqL ?_ ?_ <;> intro hc <;> first | (exfalso; first | exact absurd hc (by assumption) | exact absurd (by assumption) hc) | skip) | refine Z H ?_ | (refine Zc ?_ ?_ <;> intro hc <;> first | (exfalso; omega) | skip) | (refine Y ?_; try change C _ _ _ _ _ _) | (refine Zs H ?_; clear H; (try clear w); intro w H) | (refine Zn H ?_; clear H; (try clear w); intro _ w H) | (refine Ze H ?_; clear H; (try clear w); intro gv w H))
    (refine X.call (find_nx hD hW p.length p _ _ H (Nat.le_refl _) hl hb) ?_; (try clear H); rintro _ w ⟨rfl, H⟩; refine ⟨_, rfl, ?_⟩)
    repeat' (first | (refine X.lenL ?_) | (refine X.lv H ?_) | (refine X.lw H ?_) | (refine X.lp H ?_) | (refine X.eqL ?_ ?_ <;> intro hc <;> first | (exfalso; first | exact absurd hc (by assumption) | exact absurd (by assumption) hc) | skip) | refine Z H ?_ | (refine Zc ?_ ?_ <;> intro hc <;> first | (exfalso; omega) | skip) | (refine Y ?_; try change C _ _ _ _ _ _) | (refine Zs H ?_; clear H; (try clear w); intro w H) | (refine Zn H ?_; clear H; (try clear w); intro _ w H) | (refine Ze H ?_; clear H; (try clear w); intro gv w H))
    exact ⟨_, resTT rfl, rfl, H.tail⟩
  · have hb' : isPathM p = false := by simpa using hb
    rw [hb']
    repeat' (first | (refine X.lenL ?_) | (refine X.lv H ?_) | (refine X.lw H ?_) | (refine X.lp H ?_) | (refine X.eqL ?_ ?_ <;> intro hc <;> first | (exfalso; first | exact absurd hc (by assumption) | exact absurd (by assumption) hc) | skip) | refine Z H ?_ | (refine Zc ?_ ?_ <;> intro hc <;> first | (exfalso; omega) | skip) | (refine Y ?_; try change C _ _ _ _ _ _) | (refine Zs H ?_; clear H; (try clear w); intro w H) | (refine Zn H ?_; clear H; (try clear w); intro _ w H) | (refine Ze H ?_; clear H; (try clear w); intro gv w H))
    exact ⟨_, resTT rfl, by unfold findM; rw [if_neg hb]; rfl, H.tail⟩
theorem kindOf_is {t : TR} {p : Str} {k : Int} : (kindOfM t p k).2 = if (findM t p).2 ≠ 0 then (findM t p).2 else if (t.n (findM t p).1.toNat).kind ≠ k then 170 else 0 := by
  unfold kindOfM
  split
  · rfl
  · split <;> rfl
set_option maxRecDepth 100000 in
set_option maxHeartbeats 1000000 in
theorem dir_x (H : Holds s w R) (hD : Doc s m t) (hW : WF t) (hl : p.length ≤ 140737488355328) (hin : isInnerM p = true) : Calls Try.prog 55 #[.agg (rcells m).toArray, .string ⟨p.toArray⟩] w fun e w' => e = .returned (.tuple #[.string ⟨(splitM p).1.toArray⟩, .int .i64 (kindOfM t (splitM p).1 1).2]) ∧ Holds s w' R := by
  have hm := hD.l8
  have hm32 := rcells_len hm
  obtain ⟨_, _, hpa⟩ := split_names hin
  have hp1 : 1 ≤ p.length := by
    obtain ⟨r, rfl, _⟩ := inner_names hin
    simp
  rw [← above_split hin] at hpa ⊢
  have hal : (aboveX p).1.length ≤ p.length := by
    unfold aboveX
    split
    · exact hp1
    · exact List.length_take_le' _ _
  refine enter Try.func55 rfl Try.ntmps55 rfl ?_
  repeat' (first | (refine X.lenL ?_) | (refine X.lv H ?_) | (refine X.lw H ?_) | (refine X.lp H ?_) | (refine X.eqL ?_ ?_ <;> intro hc <;> first | (exfalso; first | exact absurd hc (by assumption) | exact absurd (by assumption) hc) | skip) | refine Z H ?_ | (refine Zc ?_ ?_ <;> intro hc <;> first | (exfalso; omega) | skip) | (refine Y ?_; try change C _ _ _ _ _ _) | (refine Zs H ?_; clear H; (try clear w); intro w H) | (refine Zn H ?_; clear H; (try clear w); intro _ w H) | (refine Ze H ?_; clear H; (try clear w); intro gv w H))
  (refine X.call (Above_x (p := p) H hp1 hl) ?_; (try clear H); rintro _ w ⟨rfl, H⟩; refine ⟨_, rfl, ?_⟩)
  generalize (aboveX p).1 = ab at *
  generalize (aboveX p).2 = nm at *
  have hko := kindOf_is (t := t) (p := ab) (k := 1)
  repeat' (first | (refine X.lenL ?_) | (refine X.lv H ?_) | (refine X.lw H ?_) | (refine X.lp H ?_) | (refine X.eqL ?_ ?_ <;> intro hc <;> first | (exfalso; first | exact absurd hc (by assumption) | exact absurd (by assumption) hc) | skip) | refine Z H ?_ | (refine Zc ?_ ?_ <;> intro hc <;> first | (exfalso; omega) | skip) | (refine Y ?_; try change C _ _ _ _ _ _) | (refine Zs H ?_; clear H; (try clear w); intro w H) | (refine Zn H ?_; clear H; (try clear w); intro _ w H) | (refine Ze H ?_; clear H; (try clear w); intro gv w H))
  (refine X.call (find_nx hD hW ab.length ab _ _ H (Nat.le_refl _) (by omega) hpa) ?_; (try clear H); rintro _ w ⟨rfl, H⟩; refine ⟨_, rfl, ?_⟩)
  by_cases her : (findM t ab).2 = 0
  · rw [if_neg (by simpa using her)] at hko
    obtain ⟨k, hk, hkk, hfk⟩ := find_nat hW her
    rw [hfk] at hko her ⊢
    rw [Int.toNat_natCast] at hko
    have c0 := rcell hm hk 0 _ rfl
    have hkd := hD.kind hk
    have h12 := kind12 hW hk hkk
    by_cases hk2 : (rn m k).kind = 2
    · rw [if_pos (by omega)] at hko
      repeat' (first | (refine K.iaA (i := k) rfl rfl rfl rfl rfl hk ?_) | (refine X.lenL ?_) | (refine X.lv H ?_) | (refine X.lw H ?_) | (refine X.lp H ?_) | (refine X.eqL ?_ ?_ <;> intro hc <;> first | (exfalso; first | exact absurd hc (by assumption) | exact absurd (by assumption) hc) | skip) | refine Z H ?_ | (refine Zc ?_ ?_ <;> intro hc <;> first | (exfalso; omega) | skip) | (refine Y ?_; try change C _ _ _ _ _ _) | (refine Zs H ?_; clear H; (try clear w); intro w H) | (refine Zn H ?_; clear H; (try clear w); intro _ w H) | (refine Ze H ?_; clear H; (try clear w); intro gv w H))
      exact ⟨_, resTT rfl, by rw [hko]; rfl, H.tail⟩
    · rw [if_neg (by omega)] at hko
      repeat' (first | (refine K.iaA (i := k) rfl rfl rfl rfl rfl hk ?_) | (refine X.lenL ?_) | (refine X.lv H ?_) | (refine X.lw H ?_) | (refine X.lp H ?_) | (refine X.eqL ?_ ?_ <;> intro hc <;> first | (exfalso; first | exact absurd hc (by assumption) | exact absurd (by assumption) hc) | skip) | refine Z H ?_ | (refine Zc ?_ ?_ <;> intro hc <;> first | (exfalso; omega) | skip) | (refine Y ?_; try change C _ _ _ _ _ _) | (refine Zs H ?_; clear H; (try clear w); intro w H) | (refine Zn H ?_; clear H; (try clear w); intro _ w H) | (refine Ze H ?_; clear H; (try clear w); intro gv w H))
      exact ⟨_, resTT rfl, by rw [hko]; rfl, H.tail⟩
  · rw [if_pos her] at hko
    repeat' (first | (refine X.lenL ?_) | (refine X.lv H ?_) | (refine X.lw H ?_) | (refine X.lp H ?_) | (refine X.eqL ?_ ?_ <;> intro hc <;> first | (exfalso; first | exact absurd hc (by assumption) | exact absurd (by assumption) hc) | skip) | refine Z H ?_ | (refine Zc ?_ ?_ <;> intro hc <;> first | (exfalso; omega) | skip) | (refine Y ?_; try change C _ _ _ _ _ _) | (refine Zs H ?_; clear H; (try clear w); intro w H) | (refine Zn H ?_; clear H; (try clear w); intro _ w H) | (refine Ze H ?_; clear H; (try clear w); intro gv w H))
    exact ⟨_, resTT rfl, by rw [hko]; rfl, H.tail⟩
set_option maxRecDepth 100000 in
set_option maxHeartbeats 1000000 in
theorem File_x (H : Holds s w R) (hD : Doc s m t) (hW : WF t) (hl : p.length ≤ 140737488355328) : Calls Try.prog 53 #[.agg (rcells m).toArray, .string ⟨p.toArray⟩] w fun e w' => ∃ k : Nat, k < 8 ∧ e = .returned (.tuple #[.int .i64 (k : Int), .int .i64 (kindOfM t p 2).2]) ∧ ((kindOfM t p 2).2 = 0 → kindOfM t p 2 = ((k : Int), 0) ∧ findM t p = ((k : Int), 0) ∧ (t.n k).kind = 2) ∧ Holds s w' R := by
  have hm := hD.l8
  have hm32 := rcells_len hm
  have hko := kindOf_is (t := t) (p := p) (k := 2)
  refine enter Try.func53 rfl Try.ntmps53 rfl ?_
  repeat' (first | (refine X.lenL ?_) | (refine X.lv H ?_) | (refine X.lw H ?_) | (refine X.lp H ?_) | (refine X.eqL ?_ ?_ <;> intro hc <;> first | (exfalso; first | exact absurd hc (by assumption) | exact absurd (by assumption) hc) | skip) | refine Z H ?_ | (refine Zc ?_ ?_ <;> intro hc <;> first | (exfalso; omega) | skip) | (refine Y ?_; try change C _ _ _ _ _ _) | (refine Zs H ?_; clear H; (try clear w); intro w H) | (refine Zn H ?_; clear H; (try clear w); intro _ w H) | (refine Ze H ?_; clear H; (try clear w); intro gv w H))
  (refine X.call (Find_x (p := p) H hD hW hl) ?_; (try clear H); rintro _ w ⟨rfl, H⟩; refine ⟨_, rfl, ?_⟩)
  by_cases her : (findM t p).2 = 0
  · rw [if_neg (by simpa using her)] at hko
    obtain ⟨k, hk, hkk, hfk⟩ := find_nat hW her
    rw [hfk] at hko her ⊢
    rw [Int.toNat_natCast] at hko
    have c0 := rcell hm hk 0 _ rfl
    have hkd := hD.kind hk
    by_cases hk2 : (rn m k).kind = 2
    · have hk2' : (t.n k).kind = 2 := by omega
      rw [if_neg (by omega)] at hko
      repeat' (first | (refine K.iaA (i := k) rfl rfl rfl rfl rfl hk ?_) | (refine X.lenL ?_) | (refine X.lv H ?_) | (refine X.lw H ?_) | (refine X.lp H ?_) | (refine X.eqL ?_ ?_ <;> intro hc <;> first | (exfalso; first | exact absurd hc (by assumption) | exact absurd (by assumption) hc) | skip) | refine Z H ?_ | (refine Zc ?_ ?_ <;> intro hc <;> first | (exfalso; omega) | skip) | (refine Y ?_; try change C _ _ _ _ _ _) | (refine Zs H ?_; clear H; (try clear w); intro w H) | (refine Zn H ?_; clear H; (try clear w); intro _ w H) | (refine Ze H ?_; clear H; (try clear w); intro gv w H))
      refine ⟨_, resTT rfl, k, hk, by rw [hko]; rfl, fun _ => ⟨?_, rfl, hk2'⟩, H.tail⟩
      unfold kindOfM
      rw [hfk, if_neg (by simp), Int.toNat_natCast, if_neg (by omega)]
    · rw [if_pos (by omega)] at hko
      repeat' (first | (refine K.iaA (i := k) rfl rfl rfl rfl rfl hk ?_) | (refine X.lenL ?_) | (refine X.lv H ?_) | (refine X.lw H ?_) | (refine X.lp H ?_) | (refine X.eqL ?_ ?_ <;> intro hc <;> first | (exfalso; first | exact absurd hc (by assumption) | exact absurd (by assumption) hc) | skip) | refine Z H ?_ | (refine Zc ?_ ?_ <;> intro hc <;> first | (exfalso; omega) | skip) | (refine Y ?_; try change C _ _ _ _ _ _) | (refine Zs H ?_; clear H; (try clear w); intro w H) | (refine Zn H ?_; clear H; (try clear w); intro _ w H) | (refine Ze H ?_; clear H; (try clear w); intro gv w H))
      exact ⟨_, resTT rfl, k, hk, by rw [hko]; rfl, (fun h => by rw [hko] at h; cases h), H.tail⟩
  · rw [if_pos her] at hko
    have hfe := find_err her
    rw [hfe]
    repeat' (first | (refine X.lenL ?_) | (refine X.lv H ?_) | (refine X.lw H ?_) | (refine X.lp H ?_) | (refine X.eqL ?_ ?_ <;> intro hc <;> first | (exfalso; first | exact absurd hc (by assumption) | exact absurd (by assumption) hc) | skip) | refine Z H ?_ | (refine Zc ?_ ?_ <;> intro hc <;> first | (exfalso; omega) | skip) | (refine Y ?_; try change C _ _ _ _ _ _) | (refine Zs H ?_; clear H; (try clear w); intro w H) | (refine Zn H ?_; clear H; (try clear w); intro _ w H) | (refine Ze H ?_; clear H; (try clear w); intro gv w H))
    exact ⟨_, resTT rfl, 0, by omega, by rw [hko]; rfl, (fun h => by rw [hko] at h; exact absurd h her), H.tail⟩
end
end Go.Proofs.Ytlchnabnhimlcaa
set_option linter.unusedSimpArgs false
set_option linter.unusedVariables false
namespace Go.Proofs.Ytlchnabnhimlcaa
open Go Go.RowKit Go.Own
theorem build_rn0 (w : World) : (Instr.build 37 ([] : List (Nat × Value)).toArray).run Try.prog w = .ok (.agg (RN.cells RN.zero).toArray) w := by kernel_rfl
theorem build_rn2 (k : Int) (p : Str) (w : World) : (Instr.build 37 ([(0, .int .i64 k), (1, .string ⟨p.toArray⟩)] : List (Nat × Value)).toArray).run Try.prog w = .ok (.agg (RN.cells ⟨k, p, [], none, 0, 0⟩).toArray) w := by kernel_rfl
section
variable {w : World} {s : Ro} {R : List Asn} {p q : Str} {m : List RN}
end
end Go.Proofs.Ytlchnabnhimlcaa
