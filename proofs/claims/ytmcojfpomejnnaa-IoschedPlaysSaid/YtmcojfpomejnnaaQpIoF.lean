/- Layer 15's laws: their parts. Layer 15's examples. -/
import Derived.Test.YtmcojfpomejnnaaQpIoE
import Derived.Test.YtmcojfpomejnnaaQpApart
set_option linter.unusedSimpArgs false
set_option linter.unusedVariables false
namespace Go.Proofs.Ytmcojfpomejnnaa
open Go Go.RowKit Go.Own
/-- an Act of layer 15's laws -/
structure Act15 where
  do_ : Int
  part : Int
  kind : Int
  at_ : Int
  data : Bool
  fill : UInt8
  off : Int
  keepv : Value
  keep : List Bool
def Act15.cells (a : Act15) : List Value := [.int .i64 a.do_, .int .i64 a.part, .int .i64 a.kind, .int .i64 a.at_, .bool a.data, u8 a.fill, .int .i64 a.off, a.keepv]
structure Act15.Ok (s : Ro) (a : Act15) : Prop where
  keep : SlS s a.keepv 1 a.keep.length (a.keep.map Value.bool)
  klen : a.keep.length ≤ 140737488351232
  hd : I64 a.do_
  hp : I64 a.part
  hk : I64 a.kind
  ha : I64 a.at_
  ho : I64 a.off
theorem Act15.Ok.mono {s s' : Ro} {a : Act15} (h : a.Ok s) (hs : s.Le s') : a.Ok s' := ⟨h.keep.mono hs, h.klen, h.hd, h.hp, h.hk, h.ha, h.ho⟩
def Act15.req (a : Act15) : List UInt8 := if a.data then sect a.fill a.off else []
theorem req_len (a : Act15) : a.req.length ≤ 127 := by
  unfold Act15.req; split
  · rw [sect_len]; exact secLen_le _
  · simp
theorem build_req (k a : Int) (w : World) : (Instr.build 45 [(0, .int .i64 k), (1, .int .i64 a)].toArray).run Try.prog w = .ok (.agg #[.int .i64 k, .int .i64 a, .slice none 0 0]) w := by kernel_rfl
section
variable {s : Ro} {w : World} {R : List Asn}
set_option maxRecDepth 100000 in
set_option maxHeartbeats 1000000 in
theorem Request_s {a : Act15} {ka : Option Addr} {kn kc : Nat} (H : Holds s w R) (hk : a.keepv = .slice ka kn kc) : Calls Try.prog 16 #[.agg a.cells.toArray] w fun e w' => ∃ t da dc, e = .returned (.agg #[.int .i64 a.kind, .int .i64 a.at_, .slice da a.req.length dc]) ∧ Holds s w' (row t 1 (.slice da a.req.length dc) a.req.length (u8s a.req) :: R) := by
  obtain ⟨ado, ap, akind, aat, adata, afill, aoff, kv, keep⟩ := a
  simp only at hk
  subst hk
  cases adata with
  | true =>
    refine enter Try.func16 rfl Try.ntmps16 rfl ?_
    repeat' (first | (refine K.build [(0, .int .i64 akind), (1, .int .i64 aat)] (.agg #[.int .i64 akind, .int .i64 aat, .slice none 0 0]) (build_req _ _) rfl rfl rfl ?_) | refine Z H ?_ | (refine Zc ?_ ?_ <;> intro hc <;> first | (exfalso; omega) | skip) | (refine Y ?_; try change C _ _ _ _ _ _) | (refine Zs H ?_; clear H; (try clear w); intro w H) | (refine Zn H ?_; clear H; (try clear w); intro _ w H) | (refine Ze H ?_; clear H; (try clear w); intro gv w H))
    (refine X.call (Sector_s (x := afill) (off := aoff) H) ?_; (try clear H); rintro _ w ⟨t, da, dc, rfl, H⟩; refine ⟨_, rfl, ?_⟩)
    repeat' (first | refine Z H ?_ | (refine Zc ?_ ?_ <;> intro hc <;> first | (exfalso; omega) | skip) | (refine Y ?_; try change C _ _ _ _ _ _) | (refine Zs H ?_; clear H; (try clear w); intro w H) | (refine Zn H ?_; clear H; (try clear w); intro _ w H) | (refine Ze H ?_; clear H; (try clear w); intro gv w H))
    have H' : Holds s w (row t 1 (.slice da (sect afill aoff).length dc) (sect afill aoff).length (u8s (sect afill aoff)) :: R) := H.arr
    exact ⟨_, resV H rfl, t, da, dc, rfl, H'⟩
  | false =>
    refine enter Try.func16 rfl Try.ntmps16 rfl ?_
    repeat' (first | (refine K.build [(0, .int .i64 akind), (1, .int .i64 aat)] (.agg #[.int .i64 akind, .int .i64 aat, .slice none 0 0]) (build_req _ _) rfl rfl rfl ?_) | refine Z H ?_ | (refine Zc ?_ ?_ <;> intro hc <;> first | (exfalso; omega) | skip) | (refine Y ?_; try change C _ _ _ _ _ _) | (refine Zs H ?_; clear H; (try clear w); intro w H) | (refine Zn H ?_; clear H; (try clear w); intro _ w H) | (refine Ze H ?_; clear H; (try clear w); intro gv w H))
    have H' : Holds s w (row 0 1 (.slice none 0 0) 0 [] :: R) := (H.nilRow 0 1).arr
    exact ⟨_, resV H rfl, 0, none, 0, rfl, H'⟩
theorem few_s {xs : List Ext} {rooms slots : List Int} {xa ra la : Option Addr} {xc rc lc : Nat} (H : Holds s w R) (h1 : xs.length ≤ xc) (h2 : rooms.length ≤ rc) (h3 : slots.length ≤ lc) (h4 : xc ≤ maxLen) (h5 : rc ≤ maxLen) (h6 : lc ≤ maxLen) : Calls Try.prog 22 #[.agg #[.slice xa xs.length xc, .slice ra rooms.length rc, .slice la slots.length lc]] w fun e w' => e = .returned (.agg #[.slice xa (xs.take 10).length xc, .slice ra (rooms.take 10).length rc, .slice la (slots.take 34).length lc]) ∧ Holds s w' R := by
  have e1 : (xs.take 10).length = min 10 xs.length := List.length_take
  have e2 : (rooms.take 10).length = min 10 rooms.length := List.length_take
  have e3 : (slots.take 34).length = min 34 slots.length := List.length_take
  unfold maxLen at h4 h5 h6
  rw [e1, e2, e3]
  refine enter Try.func22 rfl Try.ntmps22 rfl ?_
  repeat' (first | (refine K.upto (l := 10) rfl rfl rfl rfl (by rfl) (by omega) ?_) | (refine K.upto (l := 34) rfl rfl rfl rfl (by rfl) (by omega) ?_) | refine Z H ?_ | (refine Zc ?_ ?_ <;> intro hc <;> first | (exfalso; omega) | skip) | (refine Y ?_; try change C _ _ _ _ _ _) | (refine Zs H ?_; clear H; (try clear w); intro w H) | (refine Zn H ?_; clear H; (try clear w); intro _ w H) | (refine Ze H ?_; clear H; (try clear w); intro gv w H))
  all_goals
    refine ⟨_, resV H rfl, ?_, H.arr⟩
    first
      | rw [Nat.min_eq_left (a := 10) (b := xs.length) (by omega)]
      | rw [Nat.min_eq_right (a := 10) (b := xs.length) (by omega)]
    first
      | rw [Nat.min_eq_left (a := 10) (b := rooms.length) (by omega)]
      | rw [Nat.min_eq_right (a := 10) (b := rooms.length) (by omega)]
    first
      | rw [Nat.min_eq_left (a := 34) (b := slots.length) (by omega)]
      | rw [Nat.min_eq_right (a := 34) (b := slots.length) (by omega)]
theorem build_arr (x y : Int) (w : World) : (Instr.build 104 [(0, .int .i64 x), (1, .int .i64 y)].toArray).run Try.prog w = .ok (.agg #[.int .i64 x, .int .i64 y]) w := by kernel_rfl
theorem flat_snoc (l : List Ext) (i : Nat) (h : i < l.length) : (l.take (i + 1)).flatMap Ext.cells = (l.take i).flatMap Ext.cells ++ [.int .i64 l[i].1, .int .i64 l[i].2] := by
  rw [List.take_succ_eq_append_getElem h, List.flatMap_append]
  rfl
set_option maxRecDepth 100000 in
set_option maxHeartbeats 1000000 in
theorem pairs_s {xs : List Ext} {xa : Option Addr} {xc : Nat} (H : Holds s w R) (hx : SlS s (.slice xa xs.length xc) 2 xs.length (xs.flatMap Ext.cells)) (bx : xs.length ≤ 1000) : Calls Try.prog 25 #[.slice xa xs.length xc] w fun e w' => ∃ aa cc, e = .returned (.slice aa xs.length cc) ∧ Holds s w' (row 104 2 (.slice aa xs.length cc) xs.length (xs.flatMap Ext.cells) :: R) := by
  refine enter Try.func25 rfl Try.ntmps25 rfl ?_
  repeat' (first | refine Z H ?_ | (refine Zc ?_ ?_ <;> intro hc <;> first | (exfalso; omega) | skip) | (refine Y ?_; try change C _ _ _ _ _ _) | (refine Zs H ?_; clear H; (try clear w); intro w H) | (refine Zn H ?_; clear H; (try clear w); intro _ w H) | (refine Ze H ?_; clear H; (try clear w); intro gv w H))
  replace H := H.nilRow 104 2
  refine C.loopR H [3, 4, 5, 6, 7, 8, 9, 10, 11, 12, 13, 14, 15, 16, 17, 18, 19, 20, 21, 22, 23, 24] [3, 4] rfl (fun m vs A => ∃ i : Nat, ∃ aa cc, m = xs.length - i ∧ i ≤ xs.length ∧ vs = [.slice aa i cc, .int .i64 (i : Int)] ∧ A = row 104 2 (.slice aa i cc) i ((xs.take i).flatMap Ext.cells)) xs.length ⟨0, none, 0, rfl, Nat.zero_le _, rfl, rfl⟩ ?_
  clear H
  rintro m vs hv w A ⟨i, aa, cc, rfl, hi, rfl, rfl⟩ H
  by_cases hlt : i < xs.length
  · obtain ⟨gl, ol, cl, hv2, _, _, hpin⟩ := elemS hx (fun _ _ => rfl) (by decide) (by omega)
    cases hv2
    have p0 : Pin s gl (ol + i * 2 + 0) (.int .i64 xs[i].1) := hpin i hlt 0 _ rfl
    have p1 : Pin s gl (ol + i * 2 + 1) (.int .i64 xs[i].2) := hpin i hlt 1 _ rfl
    have hsn := flat_snoc xs i hlt
    generalize xs[i] = x at *
    repeat' (first | refine Z H ?_ | (refine Zc ?_ ?_ <;> intro hc <;> first | (exfalso; omega) | skip) | (refine Y ?_; try change C _ _ _ _ _ _) | (refine Zs H ?_; clear H; (try clear w); intro w H) | (refine Zn H ?_; clear H; (try clear w); intro _ w H) | (refine Ze H ?_; clear H; (try clear w); intro gv w H))
    refine C.drawn1 [0, 0, 0, 0, 0, 1, 0, 0, 0, 0, 1, 0, 2, 3, 0] [0, 0, 0, 6, 14, 30, 0, 0, 192, 448, 960, 2046, 4094, 8191, 16383] (by kernel_rfl) ?_; replace H := H.drew
    repeat' (first | (refine K.build [(0, .int .i64 _), (1, .int .i64 _)] (.agg #[.int .i64 _, .int .i64 _]) (build_arr _ _) rfl rfl rfl ?_) | refine Z H ?_ | (refine Zc ?_ ?_ <;> intro hc <;> first | (exfalso; omega) | skip) | (refine Y ?_; try change C _ _ _ _ _ _) | (refine Zs H ?_; clear H; (try clear w); intro w H) | (refine Zn H ?_; clear H; (try clear w); intro _ w H) | (refine Ze H ?_; clear H; (try clear w); intro gv w H))
    refine K.one H rfl rfl (by conv => lhs; whnf) (by rfl) (by rfl) ?_; clear H; (try clear w); intro g1 w H
    repeat' (first | (refine X.app H ?_; clear H; intro a3 c3 w H) | refine Z H ?_ | (refine Zc ?_ ?_ <;> intro hc <;> first | (exfalso; omega) | skip) | (refine Y ?_; try change C _ _ _ _ _ _) | (refine Zs H ?_; clear H; (try clear w); intro w H) | (refine Zn H ?_; clear H; (try clear w); intro _ w H) | (refine Ze H ?_; clear H; (try clear w); intro gv w H))
    refine ⟨by (repeat (first | exact Agr.refl | exact Agr.hav | refine Agr.upd rfl ?_ | refine Agr.in rfl ?_)), xs.length - (i + 1), by omega, _, ⟨i + 1, a3, c3, rfl, by omega, rfl, rfl⟩, ?_⟩
    rw [hsn]; exact H.tail
  · have : i = xs.length := by omega
    subst this
    rw [List.take_length] at H
    repeat' (first | refine Z H ?_ | (refine Zc ?_ ?_ <;> intro hc <;> first | (exfalso; omega) | skip) | (refine Y ?_; try change C _ _ _ _ _ _) | (refine Zs H ?_; clear H; (try clear w); intro w H) | (refine Zn H ?_; clear H; (try clear w); intro _ w H) | (refine Ze H ?_; clear H; (try clear w); intro gv w H))
    exact ⟨_, resT rfl, aa, cc, rfl, H⟩
theorem pairs_e {xs : List Ext} {xa : Option Addr} {xc : Nat} (H : Holds s w R) (hx : SlS s (.slice xa xs.length xc) 2 xs.length (xs.flatMap Ext.cells)) (bx : xs.length ≤ 1000) : Calls Try.prog 25 #[.slice xa xs.length xc] w fun e w' => ∃ aa cc, e = .returned (.slice aa xs.length cc) ∧ Only [] w w' ∧ Holds s w' (row 104 2 (.slice aa xs.length cc) xs.length (xs.flatMap Ext.cells) :: R) :=
  (pairs_s H.full (hx.mono H.le_full) bx).mono fun e w' ⟨aa, cc, he, H'⟩ => ⟨aa, cc, he, H.pure1 H'⟩
set_option maxRecDepth 100000 in
set_option maxHeartbeats 1000000 in
theorem May_r {xs : List Ext} {rooms slots : List Int} {xa ra la : Option Addr} {xc rc lc : Nat} {n : Nat} (H : Holds s w R) (hn : n ≤ 256) (hx : SlS s (.slice xa xs.length xc) 2 xs.length (xs.flatMap Ext.cells)) (hxo : ∀ x ∈ xs, I64 x.1 ∧ I64 x.2) (hr : SlS s (.slice ra rooms.length rc) 1 rooms.length (rooms.map (Value.int .i64))) (hl : SlS s (.slice la slots.length lc) 1 slots.length (slots.map (Value.int .i64)))
    (bx : xs.length ≤ 1000) (br : rooms.length ≤ 1000) (bl : slots.length ≤ 1000) :
    Calls Try.prog 24 #[.int .i64 (n : Int), .slice xa xs.length xc, .slice ra rooms.length rc, .slice la slots.length lc] w fun e w' => e = .returned (.int .i64 (mayM n xs rooms slots)) ∧ Holds s w' R := by
  refine enter Try.func24 rfl Try.ntmps24 rfl ?_
  by_cases h1 : rooms.length = xs.length ∧ xs.length ≤ 8 ∧ slots.length ≤ 32
  rotate_left
  · repeat' (first | ((fail_if_success (with_reducible show C _ _ _ (Code.seq (Code.seq (Code.region 3 _ _) _) _) _ _)); refine Z H ?_) | (refine Zc ?_ ?_ <;> intro hc <;> first | (exfalso; omega) | skip) | (refine Y ?_; try change C _ _ _ _ _ _) | (refine Zs H ?_; clear H; (try clear w); intro w H) | (refine Zn H ?_; clear H; (try clear w); intro _ w H) | (refine Ze H ?_; clear H; (try clear w); intro gv w H))
    all_goals first
      | (exfalso; omega)
      | exact ⟨_, resT rfl, by rw [may_1 h1]; rfl, H⟩
  repeat' (first | ((fail_if_success (with_reducible show C _ _ _ (Code.seq (Code.seq (Code.region 3 _ _) _) _) _ _)); refine Z H ?_) | (refine Zc ?_ ?_ <;> intro hc <;> first | (exfalso; omega) | skip) | (refine Y ?_; try change C _ _ _ _ _ _) | (refine Zs H ?_; clear H; (try clear w); intro w H) | (refine Zn H ?_; clear H; (try clear w); intro _ w H) | (refine Ze H ?_; clear H; (try clear w); intro gv w H))
  refine C.cutH H [8, 9, 29, 30, 31, 32, 33, 34, 35, 36, 37, 38, 39, 40, 41, 42, 43, 44, 45, 46] [] rfl (fun vs => ∀ r ∈ rooms, 1 ≤ r ∧ r ≤ 16) ?_ ?_
  · repeat' (first | refine Z H ?_ | (refine Zc ?_ ?_ <;> intro hc <;> first | (exfalso; omega) | skip) | (refine Y ?_; try change C _ _ _ _ _ _) | (refine Zs H ?_; clear H; (try clear w); intro w H) | (refine Zn H ?_; clear H; (try clear w); intro _ w H) | (refine Ze H ?_; clear H; (try clear w); intro gv w H))
    refine C.loopH H [8, 9, 29, 30, 31, 32, 33, 34, 35, 36, 37, 38, 39, 40, 41, 42, 43, 44, 45, 46] [9] rfl (fun m vs => ∃ i : Nat, m = rooms.length - i ∧ i ≤ rooms.length ∧ vs = [.int .i64 (i : Int)] ∧ ∀ k (hk : k < rooms.length), k < i → 1 ≤ rooms[k] ∧ rooms[k] ≤ 16) rooms.length ⟨0, rfl, Nat.zero_le _, rfl, fun k _ h => by omega⟩ ?_
    clear H
    rintro m vs hv w ⟨i, rfl, hi, rfl, hI⟩ H
    by_cases hlt : i < rooms.length
    · obtain ⟨g, o, rfl, hpin⟩ := int_pin hr (by omega)
      have pi := hpin i hlt
      have hstep : 1 ≤ rooms[i] ∧ rooms[i] ≤ 16 → ∀ k (hk : k < rooms.length), k < i + 1 → 1 ≤ rooms[k] ∧ rooms[k] ≤ 16 := fun h0 k hk h => by
        rcases Nat.lt_or_ge k i with h' | h'
        · exact hI k hk h'
        · have : k = i := by omega
          subst this; exact h0
      have hbad := may_r (n := (n : Int)) (xs := xs) (slots := slots) hlt
      generalize rooms[i] = r at *
      repeat' (first | refine Z H ?_ | (refine Zc ?_ ?_ <;> intro hc <;> first | (exfalso; omega) | skip) | (refine Y ?_; try change C _ _ _ _ _ _) | (refine Zs H ?_; clear H; (try clear w); intro w H) | (refine Zn H ?_; clear H; (try clear w); intro _ w H) | (refine Ze H ?_; clear H; (try clear w); intro gv w H))
      all_goals first
        | exact ⟨_, resT rfl, by rw [hbad (by omega)]; rfl, H⟩
        | exact ⟨by (repeat (first | exact Agr.refl | exact Agr.hav | refine Agr.upd rfl ?_ | refine Agr.in rfl ?_)), rooms.length - (i + 1), by omega, ⟨i + 1, rfl, by omega, rfl, hstep (by omega)⟩, H⟩
    · repeat' (first | refine Z H ?_ | (refine Zc ?_ ?_ <;> intro hc <;> first | (exfalso; omega) | skip) | (refine Y ?_; try change C _ _ _ _ _ _) | (refine Zs H ?_; clear H; (try clear w); intro w H) | (refine Zn H ?_; clear H; (try clear w); intro _ w H) | (refine Ze H ?_; clear H; (try clear w); intro gv w H))
      exact ⟨by (repeat (first | exact Agr.refl | exact Agr.hav | refine Agr.upd rfl ?_ | refine Agr.in rfl ?_)), fun r hr => by obtain ⟨k, hk, rfl⟩ := List.mem_iff_getElem.1 hr; exact hI k hk (by omega), H⟩
  clear H
  rintro vs hv w h2 H
  repeat' (first | ((fail_if_success (with_reducible show C _ _ _ (Code.seq (Code.seq (Code.region 8 _ _) _) _) _ _)); refine Z H ?_) | (refine Zc ?_ ?_ <;> intro hc <;> first | (exfalso; omega) | skip) | (refine Y ?_; try change C _ _ _ _ _ _) | (refine Zs H ?_; clear H; (try clear w); intro w H) | (refine Zn H ?_; clear H; (try clear w); intro _ w H) | (refine Ze H ?_; clear H; (try clear w); intro gv w H))
  refine C.cutH H [8, 10, 47, 48, 49, 50, 51, 52, 53, 54, 55, 56, 57, 58, 59, 60, 61, 62, 63, 64, 65, 66] [] rfl (fun vs => ∀ v ∈ slots, -1 ≤ v ∧ v < (xs.length : Int)) ?_ ?_
  · repeat' (first | refine Z H ?_ | (refine Zc ?_ ?_ <;> intro hc <;> first | (exfalso; omega) | skip) | (refine Y ?_; try change C _ _ _ _ _ _) | (refine Zs H ?_; clear H; (try clear w); intro w H) | (refine Zn H ?_; clear H; (try clear w); intro _ w H) | (refine Ze H ?_; clear H; (try clear w); intro gv w H))
    refine C.loopH H [8, 10, 47, 48, 49, 50, 51, 52, 53, 54, 55, 56, 57, 58, 59, 60, 61, 62, 63, 64, 65, 66] [10] rfl (fun m vs => ∃ i : Nat, m = slots.length - i ∧ i ≤ slots.length ∧ vs = [.int .i64 (i : Int)] ∧ ∀ k (hk : k < slots.length), k < i → -1 ≤ slots[k] ∧ slots[k] < (xs.length : Int)) slots.length ⟨0, rfl, Nat.zero_le _, rfl, fun k _ h => by omega⟩ ?_
    clear H
    rintro m vs hv w ⟨i, rfl, hi, rfl, hI⟩ H
    by_cases hlt : i < slots.length
    · obtain ⟨g, o, rfl, hpin⟩ := int_pin hl (by omega)
      have pi := hpin i hlt
      have hstep : -1 ≤ slots[i] ∧ slots[i] < (xs.length : Int) → ∀ k (hk : k < slots.length), k < i + 1 → -1 ≤ slots[k] ∧ slots[k] < (xs.length : Int) := fun h0 k hk h => by
        rcases Nat.lt_or_ge k i with h' | h'
        · exact hI k hk h'
        · have : k = i := by omega
          subst this; exact h0
      have hbad := may_s (n := (n : Int)) (xs := xs) (rooms := rooms) hlt
      generalize slots[i] = r at *
      repeat' (first | refine Z H ?_ | (refine Zc ?_ ?_ <;> intro hc <;> first | (exfalso; omega) | skip) | (refine Y ?_; try change C _ _ _ _ _ _) | (refine Zs H ?_; clear H; (try clear w); intro w H) | (refine Zn H ?_; clear H; (try clear w); intro _ w H) | (refine Ze H ?_; clear H; (try clear w); intro gv w H))
      all_goals first
        | exact ⟨_, resT rfl, by rw [hbad (by omega)]; rfl, H⟩
        | exact ⟨by (repeat (first | exact Agr.refl | exact Agr.hav | refine Agr.upd rfl ?_ | refine Agr.in rfl ?_)), slots.length - (i + 1), by omega, ⟨i + 1, rfl, by omega, rfl, hstep (by omega)⟩, H⟩
    · repeat' (first | refine Z H ?_ | (refine Zc ?_ ?_ <;> intro hc <;> first | (exfalso; omega) | skip) | (refine Y ?_; try change C _ _ _ _ _ _) | (refine Zs H ?_; clear H; (try clear w); intro w H) | (refine Zn H ?_; clear H; (try clear w); intro _ w H) | (refine Ze H ?_; clear H; (try clear w); intro gv w H))
      exact ⟨by (repeat (first | exact Agr.refl | exact Agr.hav | refine Agr.upd rfl ?_ | refine Agr.in rfl ?_)), fun r hr => by obtain ⟨k, hk, rfl⟩ := List.mem_iff_getElem.1 hr; exact hI k hk (by omega), H⟩
  clear H
  rintro vs hv w h3 H
  repeat' (first | ((fail_if_success (with_reducible show C _ _ _ (Code.seq (Code.seq (Code.region 14 _ _) _) _) _ _)); refine Z H ?_) | (refine Zc ?_ ?_ <;> intro hc <;> first | (exfalso; omega) | skip) | (refine Y ?_; try change C _ _ _ _ _ _) | (refine Zs H ?_; clear H; (try clear w); intro w H) | (refine Zn H ?_; clear H; (try clear w); intro _ w H) | (refine Ze H ?_; clear H; (try clear w); intro gv w H))
  replace H := H.nilRow 104 2
  refine C.cut [8, 11, 12, 13, 67, 68, 69, 70, 71, 72, 73, 74, 75, 76, 77, 78, 79, 80, 81, 82, 83, 84, 85, 86, 87, 88, 89, 90] [11] rfl (fun vs w => ∃ aa cc, vs = [.slice aa (usedX xs).length cc] ∧ (∀ x ∈ xs, x.2 ≠ 0 → liesM x.1 x.2 n = true) ∧ Holds s w (row 104 2 (.slice aa (usedX xs).length cc) (usedX xs).length ((usedX xs).flatMap Ext.cells) :: R)) ?_ ?_
  · repeat' (first | refine Z H ?_ | (refine Zc ?_ ?_ <;> intro hc <;> first | (exfalso; omega) | skip) | (refine Y ?_; try change C _ _ _ _ _ _) | (refine Zs H ?_; clear H; (try clear w); intro w H) | (refine Zn H ?_; clear H; (try clear w); intro _ w H) | (refine Ze H ?_; clear H; (try clear w); intro gv w H))
    refine C.loopS [8, 11, 12, 13, 67, 68, 69, 70, 71, 72, 73, 74, 75, 76, 77, 78, 79, 80, 81, 82, 83, 84, 85, 86, 87, 88, 89, 90] [11, 12] rfl (fun m vs w => ∃ i : Nat, ∃ aa cc, m = xs.length - i ∧ i ≤ xs.length ∧ vs = [.slice aa (usedX (xs.take i)).length cc, .int .i64 (i : Int)] ∧ (∀ k (hk : k < xs.length), k < i → xs[k].2 ≠ 0 → liesM xs[k].1 xs[k].2 n = true) ∧ Holds s w (row 104 2 (.slice aa (usedX (xs.take i)).length cc) (usedX (xs.take i)).length ((usedX (xs.take i)).flatMap Ext.cells) :: R)) xs.length ⟨0, none, 0, rfl, Nat.zero_le _, rfl, fun k _ h => by omega, H⟩ ?_
    clear H
    rintro m vs hv w ⟨i, aa, cc, rfl, hi, rfl, hI, H⟩
    have hbl := usedX_len xs i
    by_cases hlt : i < xs.length
    · obtain ⟨gl, ol, cl, hv2, _, _, hpin⟩ := elemS hx (fun _ _ => rfl) (by decide) (by omega)
      cases hv2
      have pa : ∀ j v, [Value.int .i64 xs[i].1, .int .i64 xs[i].2][j]? = some v → Pin s gl (ol + i * 2 + j) v := hpin i hlt
      have hsn := usedX_succ xs i hlt
      have hxi := hxo xs[i] (List.getElem_mem _)
      have hstep : (xs[i].2 ≠ 0 → liesM xs[i].1 xs[i].2 n = true) → ∀ k (hk : k < xs.length), k < i + 1 → xs[k].2 ≠ 0 → liesM xs[k].1 xs[k].2 n = true := fun h0 k hk h => by
        rcases Nat.lt_or_ge k i with h' | h'
        · exact hI k hk h'
        · have : k = i := by omega
          subst this; exact h0
      have hbad := may_x (n := (n : Int)) h1 h2 h3 hlt
      generalize xs[i] = x at *
      by_cases hx0 : x.2 = 0
      · rw [if_neg (by simpa using hx0), List.append_nil] at hsn
        repeat' (first | (refine K.iaA (i := 1) rfl rfl rfl rfl rfl (by omega) ?_) | (refine K.iaA (i := 0) rfl rfl rfl rfl rfl (by omega) ?_) | refine Z H ?_ | (refine Zc ?_ ?_ <;> intro hc <;> first | (exfalso; omega) | skip) | (refine Y ?_; try change C _ _ _ _ _ _) | (refine Zs H ?_; clear H; (try clear w); intro w H) | (refine Zn H ?_; clear H; (try clear w); intro _ w H) | (refine Ze H ?_; clear H; (try clear w); intro gv w H))
        refine ⟨by (repeat (first | exact Agr.refl | exact Agr.hav | refine Agr.upd rfl ?_ | refine Agr.in rfl ?_)), xs.length - (i + 1), by omega, i + 1, aa, cc, rfl, by omega, ?_, hstep (fun h => absurd hx0 h), ?_⟩
        · rw [hsn]; rfl
        · rw [hsn]; exact H.arr
      · rw [if_pos (by simpa using hx0)] at hsn
        have hL := fun (w : World) (R : List Asn) (H : Holds s w R) => Lies_r (n := (n : Int)) H hxi.1 hxi.2 (by unfold I64; omega)
        cases hli : liesM x.1 x.2 n with
        | false =>
          rw [hli] at hL
          repeat' (first | (refine K.iaA (i := 1) rfl rfl rfl rfl rfl (by omega) ?_) | (refine K.iaA (i := 0) rfl rfl rfl rfl rfl (by omega) ?_) | refine Z H ?_ | (refine Zc ?_ ?_ <;> intro hc <;> first | (exfalso; omega) | skip) | (refine Y ?_; try change C _ _ _ _ _ _) | (refine Zs H ?_; clear H; (try clear w); intro w H) | (refine Zn H ?_; clear H; (try clear w); intro _ w H) | (refine Ze H ?_; clear H; (try clear w); intro gv w H))
          (refine X.call (hL _ _ H) ?_; (try clear H); rintro _ w ⟨rfl, H⟩; refine ⟨_, rfl, ?_⟩)
          clear hL
          repeat' (first | refine Z H ?_ | (refine Zc ?_ ?_ <;> intro hc <;> first | (exfalso; omega) | skip) | (refine Y ?_; try change C _ _ _ _ _ _) | (refine Zs H ?_; clear H; (try clear w); intro w H) | (refine Zn H ?_; clear H; (try clear w); intro _ w H) | (refine Ze H ?_; clear H; (try clear w); intro gv w H))
          exact ⟨_, resT rfl, by rw [hbad hx0 hli]; rfl, H.arr⟩
        | true =>
          rw [hli] at hL
          repeat' (first | (refine K.iaA (i := 1) rfl rfl rfl rfl rfl (by omega) ?_) | (refine K.iaA (i := 0) rfl rfl rfl rfl rfl (by omega) ?_) | refine Z H ?_ | (refine Zc ?_ ?_ <;> intro hc <;> first | (exfalso; omega) | skip) | (refine Y ?_; try change C _ _ _ _ _ _) | (refine Zs H ?_; clear H; (try clear w); intro w H) | (refine Zn H ?_; clear H; (try clear w); intro _ w H) | (refine Ze H ?_; clear H; (try clear w); intro gv w H))
          (refine X.call (hL _ _ H) ?_; (try clear H); rintro _ w ⟨rfl, H⟩; refine ⟨_, rfl, ?_⟩)
          clear hL
          repeat' (first | refine Z H ?_ | (refine Zc ?_ ?_ <;> intro hc <;> first | (exfalso; omega) | skip) | (refine Y ?_; try change C _ _ _ _ _ _) | (refine Zs H ?_; clear H; (try clear w); intro w H) | (refine Zn H ?_; clear H; (try clear w); intro _ w H) | (refine Ze H ?_; clear H; (try clear w); intro gv w H))
          refine K.one H rfl rfl (by conv => lhs; whnf) (by rfl) (by rfl) ?_; clear H; (try clear w); intro g1 w H
          repeat' (first | (refine X.app H ?_; clear H; intro a3 c3 w H) | refine Z H ?_ | (refine Zc ?_ ?_ <;> intro hc <;> first | (exfalso; omega) | skip) | (refine Y ?_; try change C _ _ _ _ _ _) | (refine Zs H ?_; clear H; (try clear w); intro w H) | (refine Zn H ?_; clear H; (try clear w); intro _ w H) | (refine Ze H ?_; clear H; (try clear w); intro gv w H))
          refine ⟨by (repeat (first | exact Agr.refl | exact Agr.hav | refine Agr.upd rfl ?_ | refine Agr.in rfl ?_)), xs.length - (i + 1), by omega, i + 1, a3, c3, rfl, by omega, ?_, hstep (fun _ => hli), ?_⟩
          · rw [hsn, List.length_append]; rfl
          · rw [hsn, List.length_append, List.flatMap_append]
            exact (show Holds s w (row 104 2 (.slice a3 ((usedX (xs.take i)).length + 1) c3) ((usedX (xs.take i)).length + 1) ((usedX (xs.take i)).flatMap Ext.cells ++ [.int .i64 x.1, .int .i64 x.2]) :: R) from H.arr)
    · have : i = xs.length := by omega
      subst this
      rw [List.take_length] at H hbl ⊢
      repeat' (first | refine Z H ?_ | (refine Zc ?_ ?_ <;> intro hc <;> first | (exfalso; omega) | skip) | (refine Y ?_; try change C _ _ _ _ _ _) | (refine Zs H ?_; clear H; (try clear w); intro w H) | (refine Zn H ?_; clear H; (try clear w); intro _ w H) | (refine Ze H ?_; clear H; (try clear w); intro gv w H))
      exact ⟨by (repeat (first | exact Agr.refl | exact Agr.hav | refine Agr.upd rfl ?_ | refine Agr.in rfl ?_)), aa, cc, rfl, fun x hx => by obtain ⟨k, hk, rfl⟩ := List.mem_iff_getElem.1 hx; exact hI k hk hk, H⟩
  clear H
  rintro vs hv w ⟨aa, cc, rfl, h4, H⟩
  have hma := may_a h1 h2 h3 h4
  obtain ⟨s1, hs1, H, hrow⟩ := H.fixRow
  have hul : (usedX xs).length ≤ xs.length := List.length_filter_le _ _
  repeat' (first | refine Z H ?_ | (refine Zc ?_ ?_ <;> intro hc <;> first | (exfalso; omega) | skip) | (refine Y ?_; try change C _ _ _ _ _ _) | (refine Zs H ?_; clear H; (try clear w); intro w H) | (refine Zn H ?_; clear H; (try clear w); intro _ w H) | (refine Ze H ?_; clear H; (try clear w); intro gv w H))
  have hAp := Apart_r H hrow (fun x hx => hxo x (List.mem_filter.1 hx).1) (by omega)
  cases hap : apartM (usedX xs) with
  | false =>
    rw [hap] at hAp hma
    (refine X.call (hAp) ?_; (try clear H); rintro _ w ⟨rfl, H⟩; refine ⟨_, rfl, ?_⟩)
    clear hAp
    repeat' (first | refine Z H ?_ | (refine Zc ?_ ?_ <;> intro hc <;> first | (exfalso; omega) | skip) | (refine Y ?_; try change C _ _ _ _ _ _) | (refine Zs H ?_; clear H; (try clear w); intro w H) | (refine Zn H ?_; clear H; (try clear w); intro _ w H) | (refine Ze H ?_; clear H; (try clear w); intro gv w H))
    exact ⟨_, resT rfl, by rw [hma]; rfl, weaken hs1 H⟩
  | true =>
    rw [hap] at hAp hma
    (refine X.call (hAp) ?_; (try clear H); rintro _ w ⟨rfl, H⟩; refine ⟨_, rfl, ?_⟩)
    clear hAp
    repeat' (first | refine Z H ?_ | (refine Zc ?_ ?_ <;> intro hc <;> first | (exfalso; omega) | skip) | (refine Y ?_; try change C _ _ _ _ _ _) | (refine Zs H ?_; clear H; (try clear w); intro w H) | (refine Zn H ?_; clear H; (try clear w); intro _ w H) | (refine Ze H ?_; clear H; (try clear w); intro gv w H))
    exact ⟨_, resT rfl, by rw [hma]; rfl, weaken hs1 H⟩
end
end Go.Proofs.Ytmcojfpomejnnaa
set_option linter.unusedSimpArgs false
set_option linter.unusedVariables false
namespace Go.Proofs.Ytmcojfpomejnnaa
open Go Go.RowKit Go.Own
section
variable {s : Ro} {w : World} {R rs rs' : List Asn} {b bS : Nat} {m : SM} {d : DM}
theorem Sch.arr (h : Sch s w b bS m rs) (T : Arr rs rs' := by infer_instance) : Sch s w b bS m rs' := by
  obtain ⟨va, cap, sa, sc, ps, hr, hsl, H⟩ := h
  exact ⟨va, cap, sa, sc, ps, hr, hsl, H.arr⟩
/-- the schedule, the disk, and what is beside them -/
theorem Sch.close {va sa : Option Addr} {cap sc : Nat} {ps : List Pr} {r1 r2 r3 : List Asn} (hr : SRep s b ps m) (hsl : SlS s (.slice sa m.slots.length sc) 1 m.slots.length (m.slots.map (Value.int .i64))) (H : Holds s w rs)
    (T1 : TakeA rs (var bS 136 [.slice va ps.length cap, .slice sa m.slots.length sc, .int .i64 (m.next : Int)]) r1 := by infer_instance) (T2 : TakeA r1 (row 143 70 (.slice va ps.length cap) ps.length (ps.flatMap Pr.cells)) r2 := by infer_instance) (T3 : TakeA r2 (dsk b d) r3 := by infer_instance) : Sch s w b bS m (dsk b d :: r3) := by
  have i1 := T1
  have i2 := T2
  have i3 := T3
  have a3 : Arr r2 (dsk b d :: r3) := inferInstance
  have a2 : Arr r1 (row 143 70 (.slice va ps.length cap) ps.length (ps.flatMap Pr.cells) :: dsk b d :: r3) := inferInstance
  exact ⟨va, cap, sa, sc, ps, hr, hsl, H.arr⟩
theorem New_q1 {xs : List Ext} {rooms slots : List Int} {xa ra la : Option Addr} {xc rc lc : Nat} (H : Holds s w (dsk b d :: R)) (hx : SlS s (.slice xa xs.length xc) 2 xs.length (xs.flatMap Ext.cells)) (hxo : ∀ x ∈ xs, I64 x.1 ∧ I64 x.2) (hr : SlS s (.slice ra rooms.length rc) 1 rooms.length (rooms.map (Value.int .i64))) (hl : SlS s (.slice la slots.length lc) 1 slots.length (slots.map (Value.int .i64)))
    (bx : xs.length ≤ 1000) (br : rooms.length ≤ 1000) (bl : slots.length ≤ 1000) (hm : mayM d.secs.length xs rooms slots = 0) :
    Calls Try.prog 14 #[.pointer (some ⟨b, 0, none⟩), .slice xa xs.length xc, .slice ra rooms.length rc, .slice la slots.length lc] w fun e w' =>
      ∃ s' bS, e = .returned (.tuple #[.pointer (some ⟨bS, 0, none⟩), .int .i64 0]) ∧ s.Le s' ∧ Sch s' w' b bS (SM.new xs rooms slots) (dsk b d :: R) :=
  (New_q H hx hxo hr hl bx br bl).mono fun e w' h => by
    rcases h with ⟨h, _⟩ | ⟨_, h⟩
    · exact absurd hm h
    · exact h
end
theorem build_ints2 (x y : Int) (w : World) : (Instr.buildSlice 22 2 [(0, .int .i64 x), (1, .int .i64 y)].toArray).run Try.prog w = .ok (.slice (some ⟨w.heap.size, 0, none⟩) 2 2) (w.alloc (.cells [.int .i64 x, .int .i64 y].toArray 3)) := by kernel_rfl
theorem build_ints3 (x y z : Int) (w : World) : (Instr.buildSlice 22 3 [(0, .int .i64 x), (1, .int .i64 y), (2, .int .i64 z)].toArray).run Try.prog w = .ok (.slice (some ⟨w.heap.size, 0, none⟩) 3 3) (w.alloc (.cells [.int .i64 x, .int .i64 y, .int .i64 z].toArray 3)) := by kernel_rfl
theorem build_req0 (w : World) : (Instr.build 45 ([] : List (Nat × Value)).toArray).run Try.prog w = .ok (.agg #[.int .i64 0, .int .i64 0, .slice none 0 0]) w := by kernel_rfl
theorem build_req3 (k a : Int) (da : Option Addr) (n c : Nat) (w : World) : (Instr.build 45 [(0, .int .i64 k), (1, .int .i64 a), (2, .slice da n c)].toArray).run Try.prog w = .ok (.agg #[.int .i64 k, .int .i64 a, .slice da n c]) w := by kernel_rfl
def wk1 (l : List UInt8) (n : Nat) : SM := ⟨[⟨some (0, 4), 1, 0, 0, []⟩, ⟨some (4, 4), 1, 1, 0, [⟨1, 1, 3, l⟩]⟩], [0, -1, 1], n⟩
def wk2 : SM := ⟨[⟨some (0, 4), 1, 0, 0, []⟩, ⟨some (4, 4), 1, 1, 1, []⟩], [0, -1, 1], 0⟩
theorem wk1_last (l : List UInt8) (n : Nat) : ∀ p ∈ (wk1 l n).parts, p.last ≤ 1000000 := by
  intro p hp
  simp only [wk1, List.mem_cons, List.not_mem_nil, or_false] at hp
  rcases hp with rfl | rfl <;> simp
theorem wk1_served (l : List UInt8) (n : Nat) : ∀ p ∈ (wk1 l n).parts, p.served ≤ 1000000 := by
  intro p hp
  simp only [wk1, List.mem_cons, List.not_mem_nil, or_false] at hp
  rcases hp with rfl | rfl <;> simp
theorem aw_ask {l : List UInt8} (h : l.length = 64) : (SM.new [(0, 4), (4, 4)] [1, 1] [0, -1, 1]).ask 1 1 3 l = (wk1 l 0, 1, 0) := by
  have := ask_at (m := SM.new [(0, 4), (4, 4)] [1, 1] [0, -1, 1]) (j := 1) (by decide) 1 3 l
  rw [show ((1 : Nat) : Int) = 1 from rfl] at this
  rw [this]
  have e : askP (SM.new [(0, 4), (4, 4)] [1, 1] [0, -1, 1]).parts[1] 1 3 l = (⟨some (4, 4), 1, 1, 0, [⟨1, 1, 3, l⟩]⟩, 1, 0) := by
    show askP ⟨some (4, 4), 1, 0, 0, []⟩ 1 3 l = _
    unfold askP
    simp only
    rw [if_neg (by rw [formed_t (by omega)]; decide), if_neg (by decide), if_neg (by decide)]
    rfl
  rw [e]; rfl
theorem aw_ask2 (l : List UInt8) : (wk1 l 0).ask 1 0 0 [] = (wk1 l 0, 0, 5) := rfl
theorem aw_s0 (l : List UInt8) (d : DM) : (wk1 l 0).slot d = (wk1 l 1, d, none) := rfl
theorem aw_s1 (l : List UInt8) (d : DM) : (wk1 l 1).slot d = (wk1 l 2, d, none) := rfl
theorem aw_s2 (l : List UInt8) (d : DM) : (wk1 l 2).slot d = (wk2, (pwrite d (4, 4) 3 l).1, some ⟨1, 1, [], (pwrite d (4, 4) 3 l).2⟩) := by
  rw [slot_serve (m := wk1 l 2) (j := 1) (r := ⟨1, 1, 3, l⟩) (rest := []) (x := (4, 4)) (by show 2 < 3; decide) rfl (by show 1 < 2; decide) rfl rfl]
  unfold serveM
  rw [if_neg (by simp), if_pos rfl]
  simp [wk1, wk2, SM.step]
section
variable {s : Ro} {w : World} {R : List Asn}
set_option maxRecDepth 100000 in
set_option maxHeartbeats 1000000 in
theorem awake15 (H : Holds s w R) : Calls Try.prog 26 #[] w fun e w' => e = .returned (.bool true) ∧ Holds s w' R := by
  have hpw : ∀ l : List UInt8, l.length = 64 → pwrite (DM.new 8) (4, 4) 3 l = (wr1 (DM.new 8) 7 l, 0) := fun l h => pwrite_in (d := DM.new 8) rfl rfl (f := 4) (c := 4) (a := 3) (by omega) (by decide) (by decide) h
  have hrd : ∀ l : List UInt8, (wr1 (DM.new 8) 7 l).read ((7 : Nat) : Int) = (l, 0) := fun l => by rw [read_free rfl (by simp [wr1, DM.new]), cur_wr1, if_pos rfl]
  refine enter Try.func26 rfl Try.ntmps26 rfl ?_
  repeat' (first | refine Z H ?_ | (refine Zc ?_ ?_ <;> intro hc <;> first | (exfalso; omega) | skip) | (refine Y ?_; try change C _ _ _ _ _ _) | (refine Zs H ?_; clear H; (try clear w); intro w H) | (refine Zn H ?_; clear H; (try clear w); intro _ w H) | (refine Ze H ?_; clear H; (try clear w); intro gv w H))
  (refine X.call (New_s (n := 8) H (by decide) (by decide)) ?_; (try clear H); rintro _ w ⟨b, rfl, H⟩; refine ⟨_, rfl, ?_⟩)
  repeat' (first | (refine K.build [(0, .int .i64 _), (1, .int .i64 _)] (.agg #[.int .i64 _, .int .i64 _]) (build_ext _ _) rfl rfl rfl ?_) | refine Z H ?_ | (refine Zc ?_ ?_ <;> intro hc <;> first | (exfalso; omega) | skip) | (refine Y ?_; try change C _ _ _ _ _ _) | (refine Zs H ?_; clear H; (try clear w); intro w H) | (refine Zn H ?_; clear H; (try clear w); intro _ w H) | (refine Ze H ?_; clear H; (try clear w); intro gv w H))
  refine K.lit [(0, .agg #[.int .i64 0, .int .i64 4]), (1, .agg #[.int .i64 4, .int .i64 4])] 33 2 [.int .i64 0, .int .i64 4, .int .i64 4, .int .i64 4] H (build_two _ _ _ _) rfl rfl rfl rfl (by decide) ?_
  clear H
  intro g1 w H
  obtain ⟨s1, hs1, H, hr1⟩ := H.fixRow
  refine K.lit [(0, .int .i64 1), (1, .int .i64 1)] 3 1 [.int .i64 1, .int .i64 1] H (build_ints2 _ _) rfl rfl rfl rfl (by decide) ?_
  clear H
  intro g2 w H
  obtain ⟨s2, hs2, H, hr2⟩ := H.fixRow
  refine K.lit [(0, .int .i64 0), (1, .int .i64 (-1)), (2, .int .i64 1)] 3 1 [.int .i64 0, .int .i64 (-1), .int .i64 1] H (build_ints3 _ _ _) rfl rfl rfl rfl (by decide) ?_
  clear H
  intro g3 w H
  obtain ⟨s3, hs3, H, hr3⟩ := H.fixRow
  (refine X.call (New_q1 (xs := [(0, 4), (4, 4)]) (rooms := [1, 1]) (slots := [0, -1, 1]) H (hr1.mono (hs2.trans hs3)) (by decide) (hr2.mono hs3) hr3 (by decide) (by decide) (by decide) (by decide)) ?_; (try clear H); rintro _ w ⟨s4, bS, rfl, hs4, hS⟩; refine ⟨_, rfl, ?_⟩)
  replace hs4 := hs1.trans (hs2.trans (hs3.trans hs4))
  clear hs1 hs2 hs3 hr1 hr2 hr3
  obtain ⟨va, cap, sa, sc, ps, hr, hsl, H⟩ := hS
  repeat' (first | refine Z H ?_ | (refine Zc ?_ ?_ <;> intro hc <;> first | (exfalso; omega) | skip) | (refine Y ?_; try change C _ _ _ _ _ _) | (refine Zs H ?_; clear H; (try clear w); intro w H) | (refine Zn H ?_; clear H; (try clear w); intro _ w H) | (refine Ze H ?_; clear H; (try clear w); intro gv w H))
  (refine X.call (Sector_s (x := 9) (off := 0) H) ?_; (try clear H); rintro _ w ⟨t1, a1, c1, rfl, H⟩; refine ⟨_, rfl, ?_⟩)
  have hl64 := sect0_len 9
  have hl0 : (sect 9 0)[0]? = some 9 := by rw [sect0]; rfl
  generalize sect 9 0 = l at *
  repeat' (first | (refine K.build [(0, .int .i64 1), (1, .int .i64 3), (2, .slice a1 l.length c1)] (.agg #[.int .i64 1, .int .i64 3, .slice a1 l.length c1]) (build_req3 _ _ _ _ _) rfl rfl rfl ?_) | refine Z H ?_ | (refine Zc ?_ ?_ <;> intro hc <;> first | (exfalso; omega) | skip) | (refine Y ?_; try change C _ _ _ _ _ _) | (refine Zs H ?_; clear H; (try clear w); intro w H) | (refine Zn H ?_; clear H; (try clear w); intro _ w H) | (refine Ze H ?_; clear H; (try clear w); intro gv w H))
  have hS := Sch.close (b := b) (bS := bS) (va := va) (sa := sa) (cap := cap) (sc := sc) (d := DM.new 8) hr hsl H
  have hA := Ask_s (i := 1) (k := 1) (a := 3) (l := l) hS (.own 1 _ rfl) (by decide) (by decide) (by omega) (by decide)
  rw [aw_ask hl64] at hA
  dsimp only at hA
  (refine X.call (hA) ?_; (try clear H); rintro _ w ⟨s5, rfl, hs5, hS⟩; refine ⟨_, rfl, ?_⟩)
  clear hA hr hsl
  obtain ⟨va, cap, sa, sc, ps, hr, hsl, H⟩ := hS
  repeat' (first | (refine K.build [] (.agg #[.int .i64 0, .int .i64 0, .slice none 0 0]) build_req0 rfl rfl rfl ?_) | refine Z H ?_ | (refine Zc ?_ ?_ <;> intro hc <;> first | (exfalso; omega) | skip) | (refine Y ?_; try change C _ _ _ _ _ _) | (refine Zs H ?_; clear H; (try clear w); intro w H) | (refine Zn H ?_; clear H; (try clear w); intro _ w H) | (refine Ze H ?_; clear H; (try clear w); intro gv w H))
  have hS := Sch.close (b := b) (bS := bS) (va := va) (sa := sa) (cap := cap) (sc := sc) (d := DM.new 8) hr hsl H
  have hA := Ask_s (i := 1) (k := 0) (a := 0) (l := []) hS (.ro (SlS.nil _ _)) (by decide) (by decide) (by decide) (wk1_last _ _)
  rw [aw_ask2] at hA
  dsimp only at hA
  (refine X.call (hA) ?_; (try clear H); rintro _ w ⟨s6, rfl, hs6, hS⟩; refine ⟨_, rfl, ?_⟩)
  clear hA hr hsl
  repeat' (first | refine Z H ?_ | (refine Zc ?_ ?_ <;> intro hc <;> first | (exfalso; omega) | skip) | (refine Y ?_; try change C _ _ _ _ _ _) | (refine Zs H ?_; clear H; (try clear w); intro w H) | (refine Zn H ?_; clear H; (try clear w); intro _ w H) | (refine Ze H ?_; clear H; (try clear w); intro gv w H))
  have hT := Slot_s hS (by decide) (wk1_served _ _)
  rw [aw_s0] at hT
  simp only [Option.getD_none, Option.isSome_none, Dn.zero, List.length_nil] at hT
  (refine X.call (hT) ?_; (try clear H); rintro _ w ⟨t2, a2, c2, rfl, hS⟩; refine ⟨_, rfl, ?_⟩)
  clear hT
  obtain ⟨va, cap, sa, sc, ps, hr, hsl, H⟩ := hS
  repeat' (first | refine Z H ?_ | (refine Zc ?_ ?_ <;> intro hc <;> first | (exfalso; omega) | skip) | (refine Y ?_; try change C _ _ _ _ _ _) | (refine Zs H ?_; clear H; (try clear w); intro w H) | (refine Zn H ?_; clear H; (try clear w); intro _ w H) | (refine Ze H ?_; clear H; (try clear w); intro gv w H))
  have hS := Sch.close (b := b) (bS := bS) (va := va) (sa := sa) (cap := cap) (sc := sc) (d := DM.new 8) hr hsl H
  have hT := Slot_s hS (by decide) (wk1_served _ _)
  rw [aw_s1] at hT
  simp only [Option.getD_none, Option.isSome_none, Dn.zero, List.length_nil] at hT
  (refine X.call (hT) ?_; (try clear H); rintro _ w ⟨t3, a3, c3, rfl, hS⟩; refine ⟨_, rfl, ?_⟩)
  clear hT hr hsl
  obtain ⟨va, cap, sa, sc, ps, hr, hsl, H⟩ := hS
  repeat' (first | refine Z H ?_ | (refine Zc ?_ ?_ <;> intro hc <;> first | (exfalso; omega) | skip) | (refine Y ?_; try change C _ _ _ _ _ _) | (refine Zs H ?_; clear H; (try clear w); intro w H) | (refine Zn H ?_; clear H; (try clear w); intro _ w H) | (refine Ze H ?_; clear H; (try clear w); intro gv w H))
  have hS := Sch.close (b := b) (bS := bS) (va := va) (sa := sa) (cap := cap) (sc := sc) (d := DM.new 8) hr hsl H
  have hT := Slot_s hS (by decide) (wk1_served _ _)
  rw [aw_s2, hpw l hl64] at hT
  simp only [Option.getD_some, Option.isSome_some, List.length_nil] at hT
  (refine X.call (hT) ?_; (try clear H); rintro _ w ⟨t4, a4, c4, rfl, hS⟩; refine ⟨_, rfl, ?_⟩)
  clear hT hr hsl
  obtain ⟨va, cap, sa, sc, ps, hr, hsl, H⟩ := hS
  repeat' (first | refine Z H ?_ | (refine Zc ?_ ?_ <;> intro hc <;> first | (exfalso; omega) | skip) | (refine Y ?_; try change C _ _ _ _ _ _) | (refine Zs H ?_; clear H; (try clear w); intro w H) | (refine Zn H ?_; clear H; (try clear w); intro _ w H) | (refine Ze H ?_; clear H; (try clear w); intro gv w H))
  first | (have hT : Holds _ _ (dsk b _ :: _) := H; clear hT) | (replace H := H.up 1 rfl; (try simp only [List.set_cons_zero, List.set_cons_succ, List.eraseIdx_cons_zero, List.eraseIdx_cons_succ] at H); have hT : Holds _ _ (dsk b _ :: _) := H; clear hT) | (replace H := H.up 2 rfl; (try simp only [List.set_cons_zero, List.set_cons_succ, List.eraseIdx_cons_zero, List.eraseIdx_cons_succ] at H); have hT : Holds _ _ (dsk b _ :: _) := H; clear hT) | (replace H := H.up 3 rfl; (try simp only [List.set_cons_zero, List.set_cons_succ, List.eraseIdx_cons_zero, List.eraseIdx_cons_succ] at H); have hT : Holds _ _ (dsk b _ :: _) := H; clear hT) | (replace H := H.up 4 rfl; (try simp only [List.set_cons_zero, List.set_cons_succ, List.eraseIdx_cons_zero, List.eraseIdx_cons_succ] at H); have hT : Holds _ _ (dsk b _ :: _) := H; clear hT) | (replace H := H.up 5 rfl; (try simp only [List.set_cons_zero, List.set_cons_succ, List.eraseIdx_cons_zero, List.eraseIdx_cons_succ] at H); have hT : Holds _ _ (dsk b _ :: _) := H; clear hT) | (replace H := H.up 6 rfl; (try simp only [List.set_cons_zero, List.set_cons_succ, List.eraseIdx_cons_zero, List.eraseIdx_cons_succ] at H); have hT : Holds _ _ (dsk b _ :: _) := H; clear hT)
  have hR := Read_s (n := ((7 : Nat) : Int)) H
  rw [hrd] at hR
  dsimp only at hR
  (refine X.call (hR) ?_; (try clear H); rintro _ w ⟨t5, a5, c5, rfl, H⟩; refine ⟨_, rfl, ?_⟩)
  clear hR
  obtain ⟨g5, rfl, _⟩ := H.form (i := 0) rfl (by show 0 < l.length; omega)
  have h9 : (u8s l)[0 + 0 * 1]? = some (u8 9) := by simp [u8s, hl0]
  repeat' (first | (refine K.ia (i := 0) rfl rfl rfl rfl rfl (by omega) ?_) | refine Z H ?_ | (refine Zc ?_ ?_ <;> intro hc <;> first | (exfalso; omega) | skip) | (refine Y ?_; try change C _ _ _ _ _ _) | (refine Zs H ?_; clear H; (try clear w); intro w H) | (refine Zn H ?_; clear H; (try clear w); intro _ w H) | (refine Ze H ?_; clear H; (try clear w); intro gv w H))
  rotate_left
  · rename_i hc
    exact absurd rfl hc
  have hS := Sch.close (b := b) (bS := bS) (va := va) (sa := sa) (cap := cap) (sc := sc) (d := wr1 (DM.new 8) 7 l) hr hsl H
  (refine X.call (Next_s hS) ?_; (try clear H); rintro _ w ⟨rfl, hS⟩; refine ⟨_, rfl, ?_⟩)
  repeat' (first | refine Z H ?_ | (refine Zc ?_ ?_ <;> intro hc <;> first | (exfalso; omega) | skip) | (refine Y ?_; try change C _ _ _ _ _ _) | (refine Zs H ?_; clear H; (try clear w); intro w H) | (refine Zn H ?_; clear H; (try clear w); intro _ w H) | (refine Ze H ?_; clear H; (try clear w); intro gv w H))
  rotate_left
  · rename_i hc
    exact absurd rfl hc
  obtain ⟨va, cap, sa, sc, ps, hr, hsl, H⟩ := hS
  exact ⟨_, resT rfl, rfl, weaken (hs4.trans (hs5.trans hs6)) H.arr⟩
end
end Go.Proofs.Ytmcojfpomejnnaa
