/- Layer 15's laws: their parts. -/
import Derived.Test.YtmcojfpomejnnaaIoE
import Derived.Test.YtmcojfpomejnnaaApart
set_option linter.unusedSimpArgs false
set_option linter.unusedVariables false
namespace Go.Proofs.Ytmcojfpomejnnaa
open Go Go.RowKit Go.Own

/-- an Act of layer 15's laws -/
structure Act15 where
  do_ : Int
  part : Int
  kind : Int
  at_ : Int
  data : Bool
  fill : UInt8
  off : Int
  keepv : Value
  keep : List Bool
def Act15.cells (a : Act15) : List Value := [.int .i64 a.do_, .int .i64 a.part, .int .i64 a.kind, .int .i64 a.at_, .bool a.data, u8 a.fill, .int .i64 a.off, a.keepv]
structure Act15.Ok (s : Ro) (a : Act15) : Prop where
  keep : SlS s a.keepv 1 a.keep.length (a.keep.map Value.bool)
  klen : a.keep.length ≤ 140737488351232
  hd : I64 a.do_
  hp : I64 a.part
  hk : I64 a.kind
  ha : I64 a.at_
  ho : I64 a.off
theorem Act15.Ok.mono {s s' : Ro} {a : Act15} (h : a.Ok s) (hs : s.Le s') : a.Ok s' := ⟨h.keep.mono hs, h.klen, h.hd, h.hp, h.hk, h.ha, h.ho⟩
def Act15.req (a : Act15) : List UInt8 := if a.data then sect a.fill a.off else []
theorem req_len (a : Act15) : a.req.length ≤ 127 := by
  unfold Act15.req; split
  · rw [sect_len]; exact secLen_le _
  · simp
theorem build_req (k a : Int) (w : World) : (Instr.build 45 [(0, .int .i64 k), (1, .int .i64 a)].toArray).run Try.prog w = .ok (.agg #[.int .i64 k, .int .i64 a, .slice none 0 0]) w := by kernel_rfl

section
variable {s : Ro} {w : World} {R : List Asn}
set_option maxRecDepth 100000 in
set_option maxHeartbeats 1000000 in
theorem Request_s {a : Act15} {ka : Option Addr} {kn kc : Nat} (H : Holds s w R) (hk : a.keepv = .slice ka kn kc) : Calls Try.prog 16 #[.agg a.cells.toArray] w fun e w' => ∃ t da dc, e = .returned (.agg #[.int .i64 a.kind, .int .i64 a.at_, .slice da a.req.length dc]) ∧ Holds s w' (row t 1 (.slice da a.req.length dc) a.req.length (u8s a.req) :: R) := by
  obtain ⟨ado, ap, akind, aat, adata, afill, aoff, kv, keep⟩ := a
  simp only at hk
  subst hk
  cases adata with
  | true =>
    refine enter Try.func16 rfl Try.ntmps16 rfl ?_
    repeat' (first | (refine K.build [(0, .int .i64 akind), (1, .int .i64 aat)] (.agg #[.int .i64 akind, .int .i64 aat, .slice none 0 0]) (build_req _ _) rfl rfl rfl ?_) | refine Z H ?_ | (refine Zc ?_ ?_ <;> intro hc <;> first | (exfalso; omega) | skip) | (refine Y ?_; try change C _ _ _ _ _ _) | (refine Zs H ?_; clear H; (try clear w); intro w H) | (refine Zn H ?_; clear H; (try clear w); intro _ w H) | (refine Ze H ?_; clear H; (try clear w); intro gv w H))
    (refine X.call (Sector_s (x := afill) (off := aoff) H) ?_; (try clear H); rintro _ w ⟨t, da, dc, rfl, H⟩; refine ⟨_, rfl, ?_⟩)
    repeat' (first | refine Z H ?_ | (refine Zc ?_ ?_ <;> intro hc <;> first | (exfalso; omega) | skip) | (refine Y ?_; try change C _ _ _ _ _ _) | (refine Zs H ?_; clear H; (try clear w); intro w H) | (refine Zn H ?_; clear H; (try clear w); intro _ w H) | (refine Ze H ?_; clear H; (try clear w); intro gv w H))
    have H' : Holds s w (row t 1 (.slice da (sect afill aoff).length dc) (sect afill aoff).length (u8s (sect afill aoff)) :: R) := H.arr
    exact ⟨_, resV H rfl, t, da, dc, rfl, H'⟩
  | false =>
    refine enter Try.func16 rfl Try.ntmps16 rfl ?_
    repeat' (first | (refine K.build [(0, .int .i64 akind), (1, .int .i64 aat)] (.agg #[.int .i64 akind, .int .i64 aat, .slice none 0 0]) (build_req _ _) rfl rfl rfl ?_) | refine Z H ?_ | (refine Zc ?_ ?_ <;> intro hc <;> first | (exfalso; omega) | skip) | (refine Y ?_; try change C _ _ _ _ _ _) | (refine Zs H ?_; clear H; (try clear w); intro w H) | (refine Zn H ?_; clear H; (try clear w); intro _ w H) | (refine Ze H ?_; clear H; (try clear w); intro gv w H))
    have H' : Holds s w (row 0 1 (.slice none 0 0) 0 [] :: R) := (H.nilRow 0 1).arr
    exact ⟨_, resV H rfl, 0, none, 0, rfl, H'⟩
theorem Request_e {a : Act15} {ka : Option Addr} {kn kc : Nat} (H : Holds s w R) (hk : a.keepv = .slice ka kn kc) : Calls Try.prog 16 #[.agg a.cells.toArray] w fun e w' => ∃ t da dc, e = .returned (.agg #[.int .i64 a.kind, .int .i64 a.at_, .slice da a.req.length dc]) ∧ Only [] w w' ∧ Holds s w' (row t 1 (.slice da a.req.length dc) a.req.length (u8s a.req) :: R) :=
  (Request_s H.full hk).mono fun e w' ⟨t, da, dc, he, H'⟩ => ⟨t, da, dc, he, H.pure1 H'⟩

theorem few_s {xs : List Ext} {rooms slots : List Int} {xa ra la : Option Addr} {xc rc lc : Nat} (H : Holds s w R) (h1 : xs.length ≤ xc) (h2 : rooms.length ≤ rc) (h3 : slots.length ≤ lc) (h4 : xc ≤ maxLen) (h5 : rc ≤ maxLen) (h6 : lc ≤ maxLen) : Calls Try.prog 22 #[.agg #[.slice xa xs.length xc, .slice ra rooms.length rc, .slice la slots.length lc]] w fun e w' => e = .returned (.agg #[.slice xa (xs.take 10).length xc, .slice ra (rooms.take 10).length rc, .slice la (slots.take 34).length lc]) ∧ Holds s w' R := by
  have e1 : (xs.take 10).length = min 10 xs.length := List.length_take
  have e2 : (rooms.take 10).length = min 10 rooms.length := List.length_take
  have e3 : (slots.take 34).length = min 34 slots.length := List.length_take
  unfold maxLen at h4 h5 h6
  rw [e1, e2, e3]
  refine enter Try.func22 rfl Try.ntmps22 rfl ?_
  repeat' (first | (refine K.upto (l := 10) rfl rfl rfl rfl (by rfl) (by omega) ?_) | (refine K.upto (l := 34) rfl rfl rfl rfl (by rfl) (by omega) ?_) | refine Z H ?_ | (refine Zc ?_ ?_ <;> intro hc <;> first | (exfalso; omega) | skip) | (refine Y ?_; try change C _ _ _ _ _ _) | (refine Zs H ?_; clear H; (try clear w); intro w H) | (refine Zn H ?_; clear H; (try clear w); intro _ w H) | (refine Ze H ?_; clear H; (try clear w); intro gv w H))
  all_goals
    refine ⟨_, resV H rfl, ?_, H.arr⟩
    first
      | rw [Nat.min_eq_left (a := 10) (b := xs.length) (by omega)]
      | rw [Nat.min_eq_right (a := 10) (b := xs.length) (by omega)]
    first
      | rw [Nat.min_eq_left (a := 10) (b := rooms.length) (by omega)]
      | rw [Nat.min_eq_right (a := 10) (b := rooms.length) (by omega)]
    first
      | rw [Nat.min_eq_left (a := 34) (b := slots.length) (by omega)]
      | rw [Nat.min_eq_right (a := 34) (b := slots.length) (by omega)]

theorem build_arr (x y : Int) (w : World) : (Instr.build 104 [(0, .int .i64 x), (1, .int .i64 y)].toArray).run Try.prog w = .ok (.agg #[.int .i64 x, .int .i64 y]) w := by kernel_rfl
theorem flat_snoc (l : List Ext) (i : Nat) (h : i < l.length) : (l.take (i + 1)).flatMap Ext.cells = (l.take i).flatMap Ext.cells ++ [.int .i64 l[i].1, .int .i64 l[i].2] := by
  rw [List.take_succ_eq_append_getElem h, List.flatMap_append]
  rfl
set_option maxRecDepth 100000 in
set_option maxHeartbeats 1000000 in
theorem pairs_s {xs : List Ext} {xa : Option Addr} {xc : Nat} (H : Holds s w R) (hx : SlS s (.slice xa xs.length xc) 2 xs.length (xs.flatMap Ext.cells)) (bx : xs.length ≤ 1000) : Calls Try.prog 25 #[.slice xa xs.length xc] w fun e w' => ∃ aa cc, e = .returned (.slice aa xs.length cc) ∧ Holds s w' (row 104 2 (.slice aa xs.length cc) xs.length (xs.flatMap Ext.cells) :: R) := by
  refine enter Try.func25 rfl Try.ntmps25 rfl ?_
  repeat' (first | refine Z H ?_ | (refine Zc ?_ ?_ <;> intro hc <;> first | (exfalso; omega) | skip) | (refine Y ?_; try change C _ _ _ _ _ _) | (refine Zs H ?_; clear H; (try clear w); intro w H) | (refine Zn H ?_; clear H; (try clear w); intro _ w H) | (refine Ze H ?_; clear H; (try clear w); intro gv w H))
  replace H := H.nilRow 104 2
  refine C.loopR H [3, 4, 5, 6, 7, 8, 9, 10, 11, 12, 13, 14, 15, 16, 17, 18, 19, 20, 21, 22, 23, 24] [3, 4] rfl (fun m vs A => ∃ i : Nat, ∃ aa cc, m = xs.length - i ∧ i ≤ xs.length ∧ vs = [.slice aa i cc, .int .i64 (i : Int)] ∧ A = row 104 2 (.slice aa i cc) i ((xs.take i).flatMap Ext.cells)) xs.length ⟨0, none, 0, rfl, Nat.zero_le _, rfl, rfl⟩ ?_
  clear H
  rintro m vs hv w A ⟨i, aa, cc, rfl, hi, rfl, rfl⟩ H
  by_cases hlt : i < xs.length
  · obtain ⟨gl, ol, cl, hv2, _, _, hpin⟩ := elemS hx (fun _ _ => rfl) (by decide) (by omega)
    cases hv2
    have p0 : Pin s gl (ol + i * 2 + 0) (.int .i64 xs[i].1) := hpin i hlt 0 _ rfl
    have p1 : Pin s gl (ol + i * 2 + 1) (.int .i64 xs[i].2) := hpin i hlt 1 _ rfl
    have hsn := flat_snoc xs i hlt
    generalize xs[i] = x at *
    repeat' (first | refine Z H ?_ | (refine Zc ?_ ?_ <;> intro hc <;> first | (exfalso; omega) | skip) | (refine Y ?_; try change C _ _ _ _ _ _) | (refine Zs H ?_; clear H; (try clear w); intro w H) | (refine Zn H ?_; clear H; (try clear w); intro _ w H) | (refine Ze H ?_; clear H; (try clear w); intro gv w H))
    refine C.drawn1 [0, 0, 0, 0, 0, 1, 0, 0, 0, 0, 1, 0, 2, 3, 0] [0, 0, 0, 6, 14, 30, 0, 0, 192, 448, 960, 2046, 4094, 8191, 16383] (by kernel_rfl) ?_; replace H := H.drew
    repeat' (first | (refine K.build [(0, .int .i64 _), (1, .int .i64 _)] (.agg #[.int .i64 _, .int .i64 _]) (build_arr _ _) rfl rfl rfl ?_) | refine Z H ?_ | (refine Zc ?_ ?_ <;> intro hc <;> first | (exfalso; omega) | skip) | (refine Y ?_; try change C _ _ _ _ _ _) | (refine Zs H ?_; clear H; (try clear w); intro w H) | (refine Zn H ?_; clear H; (try clear w); intro _ w H) | (refine Ze H ?_; clear H; (try clear w); intro gv w H))
    refine K.one H rfl rfl (by conv => lhs; whnf) (by rfl) (by rfl) ?_; clear H; (try clear w); intro g1 w H
    repeat' (first | (refine X.app H ?_; clear H; intro a3 c3 w H) | refine Z H ?_ | (refine Zc ?_ ?_ <;> intro hc <;> first | (exfalso; omega) | skip) | (refine Y ?_; try change C _ _ _ _ _ _) | (refine Zs H ?_; clear H; (try clear w); intro w H) | (refine Zn H ?_; clear H; (try clear w); intro _ w H) | (refine Ze H ?_; clear H; (try clear w); intro gv w H))
    refine ⟨by (repeat (first | exact Agr.refl | exact Agr.hav | refine Agr.upd rfl ?_ | refine Agr.in rfl ?_)), xs.length - (i + 1), by omega, _, ⟨i + 1, a3, c3, rfl, by omega, rfl, rfl⟩, ?_⟩
    rw [hsn]; exact H.tail
  · have : i = xs.length := by omega
    subst this
    rw [List.take_length] at H
    repeat' (first | refine Z H ?_ | (refine Zc ?_ ?_ <;> intro hc <;> first | (exfalso; omega) | skip) | (refine Y ?_; try change C _ _ _ _ _ _) | (refine Zs H ?_; clear H; (try clear w); intro w H) | (refine Zn H ?_; clear H; (try clear w); intro _ w H) | (refine Ze H ?_; clear H; (try clear w); intro gv w H))
    exact ⟨_, resT rfl, aa, cc, rfl, H⟩
theorem pairs_e {xs : List Ext} {xa : Option Addr} {xc : Nat} (H : Holds s w R) (hx : SlS s (.slice xa xs.length xc) 2 xs.length (xs.flatMap Ext.cells)) (bx : xs.length ≤ 1000) : Calls Try.prog 25 #[.slice xa xs.length xc] w fun e w' => ∃ aa cc, e = .returned (.slice aa xs.length cc) ∧ Only [] w w' ∧ Holds s w' (row 104 2 (.slice aa xs.length cc) xs.length (xs.flatMap Ext.cells) :: R) :=
  (pairs_s H.full (hx.mono H.le_full) bx).mono fun e w' ⟨aa, cc, he, H'⟩ => ⟨aa, cc, he, H.pure1 H'⟩

set_option maxRecDepth 100000 in
set_option maxHeartbeats 1000000 in
theorem May_r {xs : List Ext} {rooms slots : List Int} {xa ra la : Option Addr} {xc rc lc : Nat} {n : Nat} (H : Holds s w R) (hn : n ≤ 256) (hx : SlS s (.slice xa xs.length xc) 2 xs.length (xs.flatMap Ext.cells)) (hxo : ∀ x ∈ xs, I64 x.1 ∧ I64 x.2) (hr : SlS s (.slice ra rooms.length rc) 1 rooms.length (rooms.map (Value.int .i64))) (hl : SlS s (.slice la slots.length lc) 1 slots.length (slots.map (Value.int .i64)))
    (bx : xs.length ≤ 1000) (br : rooms.length ≤ 1000) (bl : slots.length ≤ 1000) :
    Calls Try.prog 24 #[.int .i64 (n : Int), .slice xa xs.length xc, .slice ra rooms.length rc, .slice la slots.length lc] w fun e w' => e = .returned (.int .i64 (mayM n xs rooms slots)) ∧ Holds s w' R := by
  refine enter Try.func24 rfl Try.ntmps24 rfl ?_
  by_cases h1 : rooms.length = xs.length ∧ xs.length ≤ 8 ∧ slots.length ≤ 32
  rotate_left
  · repeat' (first | ((fail_if_success (with_reducible show C _ _ _ (Code.seq (Code.seq (Code.region 3 _ _) _) _) _ _)); refine Z H ?_) | (refine Zc ?_ ?_ <;> intro hc <;> first | (exfalso; omega) | skip) | (refine Y ?_; try change C _ _ _ _ _ _) | (refine Zs H ?_; clear H; (try clear w); intro w H) | (refine Zn H ?_; clear H; (try clear w); intro _ w H) | (refine Ze H ?_; clear H; (try clear w); intro gv w H))
    all_goals first
      | (exfalso; omega)
      | exact ⟨_, resT rfl, by rw [may_1 h1]; rfl, H⟩
  repeat' (first | ((fail_if_success (with_reducible show C _ _ _ (Code.seq (Code.seq (Code.region 3 _ _) _) _) _ _)); refine Z H ?_) | (refine Zc ?_ ?_ <;> intro hc <;> first | (exfalso; omega) | skip) | (refine Y ?_; try change C _ _ _ _ _ _) | (refine Zs H ?_; clear H; (try clear w); intro w H) | (refine Zn H ?_; clear H; (try clear w); intro _ w H) | (refine Ze H ?_; clear H; (try clear w); intro gv w H))
  refine C.cutH H [8, 9, 29, 30, 31, 32, 33, 34, 35, 36, 37, 38, 39, 40, 41, 42, 43, 44, 45, 46] [] rfl (fun vs => ∀ r ∈ rooms, 1 ≤ r ∧ r ≤ 16) ?_ ?_
  · repeat' (first | refine Z H ?_ | (refine Zc ?_ ?_ <;> intro hc <;> first | (exfalso; omega) | skip) | (refine Y ?_; try change C _ _ _ _ _ _) | (refine Zs H ?_; clear H; (try clear w); intro w H) | (refine Zn H ?_; clear H; (try clear w); intro _ w H) | (refine Ze H ?_; clear H; (try clear w); intro gv w H))
    refine C.loopH H [8, 9, 29, 30, 31, 32, 33, 34, 35, 36, 37, 38, 39, 40, 41, 42, 43, 44, 45, 46] [9] rfl (fun m vs => ∃ i : Nat, m = rooms.length - i ∧ i ≤ rooms.length ∧ vs = [.int .i64 (i : Int)] ∧ ∀ k (hk : k < rooms.length), k < i → 1 ≤ rooms[k] ∧ rooms[k] ≤ 16) rooms.length ⟨0, rfl, Nat.zero_le _, rfl, fun k _ h => by omega⟩ ?_
    clear H
    rintro m vs hv w ⟨i, rfl, hi, rfl, hI⟩ H
    by_cases hlt : i < rooms.length
    · obtain ⟨g, o, rfl, hpin⟩ := int_pin hr (by omega)
      have pi := hpin i hlt
      have hstep : 1 ≤ rooms[i] ∧ rooms[i] ≤ 16 → ∀ k (hk : k < rooms.length), k < i + 1 → 1 ≤ rooms[k] ∧ rooms[k] ≤ 16 := fun h0 k hk h => by
        rcases Nat.lt_or_ge k i with h' | h'
        · exact hI k hk h'
        · have : k = i := by omega
          subst this; exact h0
      have hbad := may_r (n := (n : Int)) (xs := xs) (slots := slots) hlt
      generalize rooms[i] = r at *
      repeat' (first | refine Z H ?_ | (refine Zc ?_ ?_ <;> intro hc <;> first | (exfalso; omega) | skip) | (refine Y ?_; try change C _ _ _ _ _ _) | (refine Zs H ?_; clear H; (try clear w); intro w H) | (refine Zn H ?_; clear H; (try clear w); intro _ w H) | (refine Ze H ?_; clear H; (try clear w); intro gv w H))
      all_goals first
        | exact ⟨_, resT rfl, by rw [hbad (by omega)]; rfl, H⟩
        | exact ⟨by (repeat (first | exact Agr.refl | exact Agr.hav | refine Agr.upd rfl ?_ | refine Agr.in rfl ?_)), rooms.length - (i + 1), by omega, ⟨i + 1, rfl, by omega, rfl, hstep (by omega)⟩, H⟩
    · repeat' (first | refine Z H ?_ | (refine Zc ?_ ?_ <;> intro hc <;> first | (exfalso; omega) | skip) | (refine Y ?_; try change C _ _ _ _ _ _) | (refine Zs H ?_; clear H; (try clear w); intro w H) | (refine Zn H ?_; clear H; (try clear w); intro _ w H) | (refine Ze H ?_; clear H; (try clear w); intro gv w H))
      exact ⟨by (repeat (first | exact Agr.refl | exact Agr.hav | refine Agr.upd rfl ?_ | refine Agr.in rfl ?_)), fun r hr => by obtain ⟨k, hk, rfl⟩ := List.mem_iff_getElem.1 hr; exact hI k hk (by omega), H⟩
  clear H
  rintro vs hv w h2 H
  repeat' (first | ((fail_if_success (with_reducible show C _ _ _ (Code.seq (Code.seq (Code.region 8 _ _) _) _) _ _)); refine Z H ?_) | (refine Zc ?_ ?_ <;> intro hc <;> first | (exfalso; omega) | skip) | (refine Y ?_; try change C _ _ _ _ _ _) | (refine Zs H ?_; clear H; (try clear w); intro w H) | (refine Zn H ?_; clear H; (try clear w); intro _ w H) | (refine Ze H ?_; clear H; (try clear w); intro gv w H))
  refine C.cutH H [8, 10, 47, 48, 49, 50, 51, 52, 53, 54, 55, 56, 57, 58, 59, 60, 61, 62, 63, 64, 65, 66] [] rfl (fun vs => ∀ v ∈ slots, -1 ≤ v ∧ v < (xs.length : Int)) ?_ ?_
  · repeat' (first | refine Z H ?_ | (refine Zc ?_ ?_ <;> intro hc <;> first | (exfalso; omega) | skip) | (refine Y ?_; try change C _ _ _ _ _ _) | (refine Zs H ?_; clear H; (try clear w); intro w H) | (refine Zn H ?_; clear H; (try clear w); intro _ w H) | (refine Ze H ?_; clear H; (try clear w); intro gv w H))
    refine C.loopH H [8, 10, 47, 48, 49, 50, 51, 52, 53, 54, 55, 56, 57, 58, 59, 60, 61, 62, 63, 64, 65, 66] [10] rfl (fun m vs => ∃ i : Nat, m = slots.length - i ∧ i ≤ slots.length ∧ vs = [.int .i64 (i : Int)] ∧ ∀ k (hk : k < slots.length), k < i → -1 ≤ slots[k] ∧ slots[k] < (xs.length : Int)) slots.length ⟨0, rfl, Nat.zero_le _, rfl, fun k _ h => by omega⟩ ?_
    clear H
    rintro m vs hv w ⟨i, rfl, hi, rfl, hI⟩ H
    by_cases hlt : i < slots.length
    · obtain ⟨g, o, rfl, hpin⟩ := int_pin hl (by omega)
      have pi := hpin i hlt
      have hstep : -1 ≤ slots[i] ∧ slots[i] < (xs.length : Int) → ∀ k (hk : k < slots.length), k < i + 1 → -1 ≤ slots[k] ∧ slots[k] < (xs.length : Int) := fun h0 k hk h => by
        rcases Nat.lt_or_ge k i with h' | h'
        · exact hI k hk h'
        · have : k = i := by omega
          subst this; exact h0
      have hbad := may_s (n := (n : Int)) (xs := xs) (rooms := rooms) hlt
      generalize slots[i] = r at *
      repeat' (first | refine Z H ?_ | (refine Zc ?_ ?_ <;> intro hc <;> first | (exfalso; omega) | skip) | (refine Y ?_; try change C _ _ _ _ _ _) | (refine Zs H ?_; clear H; (try clear w); intro w H) | (refine Zn H ?_; clear H; (try clear w); intro _ w H) | (refine Ze H ?_; clear H; (try clear w); intro gv w H))
      all_goals first
        | exact ⟨_, resT rfl, by rw [hbad (by omega)]; rfl, H⟩
        | exact ⟨by (repeat (first | exact Agr.refl | exact Agr.hav | refine Agr.upd rfl ?_ | refine Agr.in rfl ?_)), slots.length - (i + 1), by omega, ⟨i + 1, rfl, by omega, rfl, hstep (by omega)⟩, H⟩
    · repeat' (first | refine Z H ?_ | (refine Zc ?_ ?_ <;> intro hc <;> first | (exfalso; omega) | skip) | (refine Y ?_; try change C _ _ _ _ _ _) | (refine Zs H ?_; clear H; (try clear w); intro w H) | (refine Zn H ?_; clear H; (try clear w); intro _ w H) | (refine Ze H ?_; clear H; (try clear w); intro gv w H))
      exact ⟨by (repeat (first | exact Agr.refl | exact Agr.hav | refine Agr.upd rfl ?_ | refine Agr.in rfl ?_)), fun r hr => by obtain ⟨k, hk, rfl⟩ := List.mem_iff_getElem.1 hr; exact hI k hk (by omega), H⟩
  clear H
  rintro vs hv w h3 H
  repeat' (first | ((fail_if_success (with_reducible show C _ _ _ (Code.seq (Code.seq (Code.region 14 _ _) _) _) _ _)); refine Z H ?_) | (refine Zc ?_ ?_ <;> intro hc <;> first | (exfalso; omega) | skip) | (refine Y ?_; try change C _ _ _ _ _ _) | (refine Zs H ?_; clear H; (try clear w); intro w H) | (refine Zn H ?_; clear H; (try clear w); intro _ w H) | (refine Ze H ?_; clear H; (try clear w); intro gv w H))
  replace H := H.nilRow 104 2
  refine C.cut [8, 11, 12, 13, 67, 68, 69, 70, 71, 72, 73, 74, 75, 76, 77, 78, 79, 80, 81, 82, 83, 84, 85, 86, 87, 88, 89, 90] [11] rfl (fun vs w => ∃ aa cc, vs = [.slice aa (usedX xs).length cc] ∧ (∀ x ∈ xs, x.2 ≠ 0 → liesM x.1 x.2 n = true) ∧ Holds s w (row 104 2 (.slice aa (usedX xs).length cc) (usedX xs).length ((usedX xs).flatMap Ext.cells) :: R)) ?_ ?_
  · repeat' (first | refine Z H ?_ | (refine Zc ?_ ?_ <;> intro hc <;> first | (exfalso; omega) | skip) | (refine Y ?_; try change C _ _ _ _ _ _) | (refine Zs H ?_; clear H; (try clear w); intro w H) | (refine Zn H ?_; clear H; (try clear w); intro _ w H) | (refine Ze H ?_; clear H; (try clear w); intro gv w H))
    refine C.loopS [8, 11, 12, 13, 67, 68, 69, 70, 71, 72, 73, 74, 75, 76, 77, 78, 79, 80, 81, 82, 83, 84, 85, 86, 87, 88, 89, 90] [11, 12] rfl (fun m vs w => ∃ i : Nat, ∃ aa cc, m = xs.length - i ∧ i ≤ xs.length ∧ vs = [.slice aa (usedX (xs.take i)).length cc, .int .i64 (i : Int)] ∧ (∀ k (hk : k < xs.length), k < i → xs[k].2 ≠ 0 → liesM xs[k].1 xs[k].2 n = true) ∧ Holds s w (row 104 2 (.slice aa (usedX (xs.take i)).length cc) (usedX (xs.take i)).length ((usedX (xs.take i)).flatMap Ext.cells) :: R)) xs.length ⟨0, none, 0, rfl, Nat.zero_le _, rfl, fun k _ h => by omega, H⟩ ?_
    clear H
    rintro m vs hv w ⟨i, aa, cc, rfl, hi, rfl, hI, H⟩
    have hbl := usedX_len xs i
    by_cases hlt : i < xs.length
    · obtain ⟨gl, ol, cl, hv2, _, _, hpin⟩ := elemS hx (fun _ _ => rfl) (by decide) (by omega)
      cases hv2
      have pa : ∀ j v, [Value.int .i64 xs[i].1, .int .i64 xs[i].2][j]? = some v → Pin s gl (ol + i * 2 + j) v := hpin i hlt
      have hsn := usedX_succ xs i hlt
      have hxi := hxo xs[i] (List.getElem_mem _)
      have hstep : (xs[i].2 ≠ 0 → liesM xs[i].1 xs[i].2 n = true) → ∀ k (hk : k < xs.length), k < i + 1 → xs[k].2 ≠ 0 → liesM xs[k].1 xs[k].2 n = true := fun h0 k hk h => by
        rcases Nat.lt_or_ge k i with h' | h'
        · exact hI k hk h'
        · have : k = i := by omega
          subst this; exact h0
      have hbad := may_x (n := (n : Int)) h1 h2 h3 hlt
      generalize xs[i] = x at *
      by_cases hx0 : x.2 = 0
      · rw [if_neg (by simpa using hx0), List.append_nil] at hsn
        repeat' (first | (refine K.iaA (i := 1) rfl rfl rfl rfl rfl (by omega) ?_) | (refine K.iaA (i := 0) rfl rfl rfl rfl rfl (by omega) ?_) | refine Z H ?_ | (refine Zc ?_ ?_ <;> intro hc <;> first | (exfalso; omega) | skip) | (refine Y ?_; try change C _ _ _ _ _ _) | (refine Zs H ?_; clear H; (try clear w); intro w H) | (refine Zn H ?_; clear H; (try clear w); intro _ w H) | (refine Ze H ?_; clear H; (try clear w); intro gv w H))
        refine ⟨by (repeat (first | exact Agr.refl | exact Agr.hav | refine Agr.upd rfl ?_ | refine Agr.in rfl ?_)), xs.length - (i + 1), by omega, i + 1, aa, cc, rfl, by omega, ?_, hstep (fun h => absurd hx0 h), ?_⟩
        · rw [hsn]; rfl
        · rw [hsn]; exact H.arr
      · rw [if_pos (by simpa using hx0)] at hsn
        have hL := fun (w : World) (R : List Asn) (H : Holds s w R) => Lies_r (n := (n : Int)) H hxi.1 hxi.2 (by unfold I64; omega)
        cases hli : liesM x.1 x.2 n with
        | false =>
          rw [hli] at hL
          repeat' (first | (refine K.iaA (i := 1) rfl rfl rfl rfl rfl (by omega) ?_) | (refine K.iaA (i := 0) rfl rfl rfl rfl rfl (by omega) ?_) | refine Z H ?_ | (refine Zc ?_ ?_ <;> intro hc <;> first | (exfalso; omega) | skip) | (refine Y ?_; try change C _ _ _ _ _ _) | (refine Zs H ?_; clear H; (try clear w); intro w H) | (refine Zn H ?_; clear H; (try clear w); intro _ w H) | (refine Ze H ?_; clear H; (try clear w); intro gv w H))
          (refine X.call (hL _ _ H) ?_; (try clear H); rintro _ w ⟨rfl, H⟩; refine ⟨_, rfl, ?_⟩)
          clear hL
          repeat' (first | refine Z H ?_ | (refine Zc ?_ ?_ <;> intro hc <;> first | (exfalso; omega) | skip) | (refine Y ?_; try change C _ _ _ _ _ _) | (refine Zs H ?_; clear H; (try clear w); intro w H) | (refine Zn H ?_; clear H; (try clear w); intro _ w H) | (refine Ze H ?_; clear H; (try clear w); intro gv w H))
          exact ⟨_, resT rfl, by rw [hbad hx0 hli]; rfl, H.arr⟩
        | true =>
          rw [hli] at hL
          repeat' (first | (refine K.iaA (i := 1) rfl rfl rfl rfl rfl (by omega) ?_) | (refine K.iaA (i := 0) rfl rfl rfl rfl rfl (by omega) ?_) | refine Z H ?_ | (refine Zc ?_ ?_ <;> intro hc <;> first | (exfalso; omega) | skip) | (refine Y ?_; try change C _ _ _ _ _ _) | (refine Zs H ?_; clear H; (try clear w); intro w H) | (refine Zn H ?_; clear H; (try clear w); intro _ w H) | (refine Ze H ?_; clear H; (try clear w); intro gv w H))
          (refine X.call (hL _ _ H) ?_; (try clear H); rintro _ w ⟨rfl, H⟩; refine ⟨_, rfl, ?_⟩)
          clear hL
          repeat' (first | refine Z H ?_ | (refine Zc ?_ ?_ <;> intro hc <;> first | (exfalso; omega) | skip) | (refine Y ?_; try change C _ _ _ _ _ _) | (refine Zs H ?_; clear H; (try clear w); intro w H) | (refine Zn H ?_; clear H; (try clear w); intro _ w H) | (refine Ze H ?_; clear H; (try clear w); intro gv w H))
          refine K.one H rfl rfl (by conv => lhs; whnf) (by rfl) (by rfl) ?_; clear H; (try clear w); intro g1 w H
          repeat' (first | (refine X.app H ?_; clear H; intro a3 c3 w H) | refine Z H ?_ | (refine Zc ?_ ?_ <;> intro hc <;> first | (exfalso; omega) | skip) | (refine Y ?_; try change C _ _ _ _ _ _) | (refine Zs H ?_; clear H; (try clear w); intro w H) | (refine Zn H ?_; clear H; (try clear w); intro _ w H) | (refine Ze H ?_; clear H; (try clear w); intro gv w H))
          refine ⟨by (repeat (first | exact Agr.refl | exact Agr.hav | refine Agr.upd rfl ?_ | refine Agr.in rfl ?_)), xs.length - (i + 1), by omega, i + 1, a3, c3, rfl, by omega, ?_, hstep (fun _ => hli), ?_⟩
          · rw [hsn, List.length_append]; rfl
          · rw [hsn, List.length_append, List.flatMap_append]
            exact (show Holds s w (row 104 2 (.slice a3 ((usedX (xs.take i)).length + 1) c3) ((usedX (xs.take i)).length + 1) ((usedX (xs.take i)).flatMap Ext.cells ++ [.int .i64 x.1, .int .i64 x.2]) :: R) from H.arr)
    · have : i = xs.length := by omega
      subst this
      rw [List.take_length] at H hbl ⊢
      repeat' (first | refine Z H ?_ | (refine Zc ?_ ?_ <;> intro hc <;> first | (exfalso; omega) | skip) | (refine Y ?_; try change C _ _ _ _ _ _) | (refine Zs H ?_; clear H; (try clear w); intro w H) | (refine Zn H ?_; clear H; (try clear w); intro _ w H) | (refine Ze H ?_; clear H; (try clear w); intro gv w H))
      exact ⟨by (repeat (first | exact Agr.refl | exact Agr.hav | refine Agr.upd rfl ?_ | refine Agr.in rfl ?_)), aa, cc, rfl, fun x hx => by obtain ⟨k, hk, rfl⟩ := List.mem_iff_getElem.1 hx; exact hI k hk hk, H⟩
  clear H
  rintro vs hv w ⟨aa, cc, rfl, h4, H⟩
  have hma := may_a h1 h2 h3 h4
  obtain ⟨s1, hs1, H, hrow⟩ := H.fixRow
  have hul : (usedX xs).length ≤ xs.length := List.length_filter_le _ _
  repeat' (first | refine Z H ?_ | (refine Zc ?_ ?_ <;> intro hc <;> first | (exfalso; omega) | skip) | (refine Y ?_; try change C _ _ _ _ _ _) | (refine Zs H ?_; clear H; (try clear w); intro w H) | (refine Zn H ?_; clear H; (try clear w); intro _ w H) | (refine Ze H ?_; clear H; (try clear w); intro gv w H))
  have hAp := Apart_r H hrow (fun x hx => hxo x (List.mem_filter.1 hx).1) (by omega)
  cases hap : apartM (usedX xs) with
  | false =>
    rw [hap] at hAp hma
    (refine X.call (hAp) ?_; (try clear H); rintro _ w ⟨rfl, H⟩; refine ⟨_, rfl, ?_⟩)
    clear hAp
    repeat' (first | refine Z H ?_ | (refine Zc ?_ ?_ <;> intro hc <;> first | (exfalso; omega) | skip) | (refine Y ?_; try change C _ _ _ _ _ _) | (refine Zs H ?_; clear H; (try clear w); intro w H) | (refine Zn H ?_; clear H; (try clear w); intro _ w H) | (refine Ze H ?_; clear H; (try clear w); intro gv w H))
    exact ⟨_, resT rfl, by rw [hma]; rfl, weaken hs1 H⟩
  | true =>
    rw [hap] at hAp hma
    (refine X.call (hAp) ?_; (try clear H); rintro _ w ⟨rfl, H⟩; refine ⟨_, rfl, ?_⟩)
    clear hAp
    repeat' (first | refine Z H ?_ | (refine Zc ?_ ?_ <;> intro hc <;> first | (exfalso; omega) | skip) | (refine Y ?_; try change C _ _ _ _ _ _) | (refine Zs H ?_; clear H; (try clear w); intro w H) | (refine Zn H ?_; clear H; (try clear w); intro _ w H) | (refine Ze H ?_; clear H; (try clear w); intro gv w H))
    exact ⟨_, resT rfl, by rw [hma]; rfl, weaken hs1 H⟩
end
end Go.Proofs.Ytmcojfpomejnnaa
