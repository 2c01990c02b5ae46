/- iosched.New. The document's Apart; ExtentApart, walked. Layer 15's laws: their parts. Layer 15's examples. -/
import Derived.Test.YtmcojfpomejnnaaNdIoD
import Derived.Test.YtmcojfpomejnnaaNdEx
set_option linter.unusedSimpArgs false
set_option linter.unusedVariables false
namespace Go.Proofs.Ytmcojfpomejnnaa
open Go Go.RowKit Go.Own
def usedX (l : List Ext) : List Ext := l.filter fun x => decide (x.2 ≠ 0)
def mayM (n : Int) (xs : List Ext) (rooms slots : List Int) : Int :=
  if ¬ (rooms.length = xs.length ∧ xs.length ≤ 8 ∧ slots.length ≤ 32) then 1
  else if ¬ (∀ r ∈ rooms, 1 ≤ r ∧ r ≤ 16) then 1
  else if ¬ (∀ v ∈ slots, -1 ≤ v ∧ v < (xs.length : Int)) then 1
  else if ¬ (∀ x ∈ xs, x.2 ≠ 0 → liesM x.1 x.2 n = true) then 4
  else if apartM (usedX xs) = true then 0 else 3
def newPM (x : Ext) (room : Int) : PM := ⟨if x.2 = 0 then none else some x, room, 0, 0, []⟩
def SM.new (xs : List Ext) (rooms slots : List Int) : SM := ⟨List.zipWith newPM xs rooms, slots, 0⟩
theorem usedX_succ (l : List Ext) (i : Nat) (h : i < l.length) : usedX (l.take (i + 1)) = usedX (l.take i) ++ if l[i].2 ≠ 0 then [l[i]] else [] := by
  unfold usedX
  rw [List.take_succ_eq_append_getElem h, List.filter_append]
  congr 1
  by_cases hx : l[i].2 = 0 <;> simp [hx]
theorem usedX_len (l : List Ext) (i : Nat) : (usedX (l.take i)).length ≤ i := Nat.le_trans (List.length_filter_le _ _) (by simp; omega)
theorem may_1 {n : Int} {xs : List Ext} {rooms slots : List Int} (h : ¬ (rooms.length = xs.length ∧ xs.length ≤ 8 ∧ slots.length ≤ 32)) : mayM n xs rooms slots = 1 := by unfold mayM; rw [if_pos h]
theorem may_r {n : Int} {xs : List Ext} {rooms slots : List Int} {i : Nat} (hi : i < rooms.length) (h : ¬ (1 ≤ rooms[i] ∧ rooms[i] ≤ 16)) : mayM n xs rooms slots = 1 := by
  unfold mayM
  split
  · rfl
  · rw [if_pos (fun hh => h (hh _ (List.getElem_mem hi)))]
theorem may_s {n : Int} {xs : List Ext} {rooms slots : List Int} {i : Nat} (hi : i < slots.length) (h : ¬ (-1 ≤ slots[i] ∧ slots[i] < (xs.length : Int))) : mayM n xs rooms slots = 1 := by
  unfold mayM
  split
  · rfl
  · split
    · rfl
    · rw [if_pos (fun hh => h (hh _ (List.getElem_mem hi)))]
theorem may_x {n : Int} {xs : List Ext} {rooms slots : List Int} {i : Nat} (h1 : rooms.length = xs.length ∧ xs.length ≤ 8 ∧ slots.length ≤ 32) (h2 : ∀ r ∈ rooms, 1 ≤ r ∧ r ≤ 16) (h3 : ∀ v ∈ slots, -1 ≤ v ∧ v < (xs.length : Int)) (hi : i < xs.length) (h : xs[i].2 ≠ 0) (h' : liesM xs[i].1 xs[i].2 n = false) : mayM n xs rooms slots = 4 := by
  unfold mayM
  rw [if_neg (by simpa using h1), if_neg (by simpa using h2), if_neg (by simpa using h3), if_pos (fun hh => by have := hh _ (List.getElem_mem hi) h; rw [h'] at this; cases this)]
theorem may_a {n : Int} {xs : List Ext} {rooms slots : List Int} (h1 : rooms.length = xs.length ∧ xs.length ≤ 8 ∧ slots.length ≤ 32) (h2 : ∀ r ∈ rooms, 1 ≤ r ∧ r ≤ 16) (h3 : ∀ v ∈ slots, -1 ≤ v ∧ v < (xs.length : Int)) (h4 : ∀ x ∈ xs, x.2 ≠ 0 → liesM x.1 x.2 n = true) : mayM n xs rooms slots = if apartM (usedX xs) = true then 0 else 3 := by
  unfold mayM
  rw [if_neg (by simpa using h1), if_neg (by simpa using h2), if_neg (by simpa using h3), if_neg (by simpa using h4)]
def zero64 : List Value := (List.replicate 16 noneC).flatten
def newPr (pv : Option Nat) (room : Int) : Pr := ⟨pv, room, 0, 0, zero64, 0, 0⟩
theorem newPr_ok (pv : Option Nat) (room : Int) : (newPr pv room).Ok := ⟨show zero64.length = 64 by decide, by
  intro v hv
  simp only [newPr, zero64, List.mem_flatten, List.mem_replicate] at hv
  obtain ⟨l, ⟨_, rfl⟩, hv⟩ := hv
  simp only [noneC, List.mem_cons, List.not_mem_nil, or_false] at hv
  rcases hv with rfl | rfl | rfl | rfl <;> rfl, show 0 < 16 by decide, show 0 ≤ 16 by decide⟩
theorem newPr_rep {s : Ro} {b : Nat} {x : Ext} {room : Int} (hr : 1 ≤ room ∧ room ≤ 16) (hx : x.2 = 0) : PRep s b (newPr none room) (newPM x room) :=
  ⟨newPr_ok _ _, .inl ⟨by simp [newPM, hx], rfl, rfl⟩, rfl, hr, rfl, rfl, rfl, fun r hr => by simp [newPM] at hr, fun k hk => by simp [newPM] at hk⟩
theorem newPr_rep' {s : Ro} {b bp : Nat} {x : Ext} {room : Int} (hr : 1 ≤ room ∧ room ≤ 16) (hx : x.2 ≠ 0) (hp : PartS s bp b x) : PRep s b (newPr (some bp) room) (newPM x room) :=
  ⟨newPr_ok _ _, .inr ⟨x, bp, by simp [newPM, hx], rfl, hp⟩, rfl, hr, rfl, rfl, rfl, fun r hr => by simp [newPM] at hr, fun k hk => by simp [newPM] at hk⟩
theorem build_part0 (room : Int) (w : World) : (Instr.build 143 [(1, .int .i64 room)].toArray).run Try.prog w = .ok (.agg (newPr none room).cells.toArray) w := by kernel_rfl
theorem build_sched (sa : Option Addr) (n c : Nat) (w : World) : (Instr.build 136 [(1, .slice sa n c)].toArray).run Try.prog w = .ok (.agg #[.slice none 0 0, .slice sa n c, .int .i64 0]) w := by kernel_rfl
section
variable {s : Ro} {w : World} {R : List Asn} {b : Nat} {d : DM} {xs : List Ext} {rooms slots : List Int} {xa ra la : Option Addr} {xc rc lc : Nat}
theorem int_pin {l : List Int} {a : Option Addr} {c : Nat} (h : SlS s (.slice a l.length c) 1 l.length (l.map (Value.int .i64))) (hl : 0 < l.length) : ∃ g o, a = some ⟨g, o, none⟩ ∧ ∀ i (hi : i < l.length), Pin s g (o + i * 1) (.int .i64 l[i]) := by
  obtain ⟨g, o, c', hv, _, _, hp⟩ := elemS1 h hl
  cases hv
  exact ⟨g, o, rfl, fun i hi => by rw [Nat.mul_one]; exact hp i hi⟩
set_option maxRecDepth 100000 in
set_option maxHeartbeats 1000000 in
theorem New_q (H : Holds s w (dsk b d :: R)) (hx : SlS s (.slice xa xs.length xc) 2 xs.length (xs.flatMap Ext.cells)) (hxo : ∀ x ∈ xs, I64 x.1 ∧ I64 x.2) (hr : SlS s (.slice ra rooms.length rc) 1 rooms.length (rooms.map (Value.int .i64))) (hl : SlS s (.slice la slots.length lc) 1 slots.length (slots.map (Value.int .i64)))
    (bx : xs.length ≤ 1000) (br : rooms.length ≤ 1000) (bl : slots.length ≤ 1000) :
    Calls Try.prog 14 #[.pointer (some ⟨b, 0, none⟩), .slice xa xs.length xc, .slice ra rooms.length rc, .slice la slots.length lc] w fun e w' =>
      (mayM d.secs.length xs rooms slots ≠ 0 ∧ e = .returned (.tuple #[.pointer none, .int .i64 (mayM d.secs.length xs rooms slots)]) ∧ Holds s w' (dsk b d :: R)) ∨
      (mayM d.secs.length xs rooms slots = 0 ∧ ∃ s' bS, e = .returned (.tuple #[.pointer (some ⟨bS, 0, none⟩), .int .i64 0]) ∧ s.Le s' ∧ Sch s' w' b bS (SM.new xs rooms slots) (dsk b d :: R)) := by
  have hwf := Holds.wf H
  have hno : ∀ {c : Int} {s' : Ro} {w' : World}, mayM d.secs.length xs rooms slots = c → c ≠ 0 → s.Le s' → Holds s' w' (dsk b d :: R) → mayM d.secs.length xs rooms slots ≠ 0 ∧ (Ending.returned (.tuple #[.pointer none, .int .i64 c])) = .returned (.tuple #[.pointer none, .int .i64 (mayM d.secs.length xs rooms slots)]) ∧ Holds s w' (dsk b d :: R) := fun h1 h2 h3 h4 => by
    rw [h1]; exact ⟨h2, rfl, weaken h3 h4⟩
  refine enter Try.func14 rfl Try.ntmps14 rfl ?_
  by_cases h1 : rooms.length = xs.length ∧ xs.length ≤ 8 ∧ slots.length ≤ 32
  rotate_left
  · repeat' (first | ((fail_if_success (with_reducible show C _ _ _ (Code.seq (Code.seq (Code.region 3 _ _) _) _) _ _)); refine Z H ?_) | (refine Zc ?_ ?_ <;> intro hc <;> first | (exfalso; omega) | skip) | (refine Y ?_; try change C _ _ _ _ _ _) | (refine Zs H ?_; clear H; (try clear w); intro w H) | (refine Zn H ?_; clear H; (try clear w); (first | ((fail_if_success (have := bl1)); intro bl1 w H) | intro _ w H)) | (refine Ze H ?_; clear H; (try clear w); intro gv w H))
    all_goals first
      | (exfalso; omega)
      | exact ⟨_, resTT rfl, .inl (hno (may_1 h1) (by decide) (Ro.Le.refl _) H)⟩
  repeat' (first | ((fail_if_success (with_reducible show C _ _ _ (Code.seq (Code.seq (Code.region 3 _ _) _) _) _ _)); refine Z H ?_) | (refine Zc ?_ ?_ <;> intro hc <;> first | (exfalso; omega) | skip) | (refine Y ?_; try change C _ _ _ _ _ _) | (refine Zs H ?_; clear H; (try clear w); intro w H) | (refine Zn H ?_; clear H; (try clear w); (first | ((fail_if_success (have := bl1)); intro bl1 w H) | intro _ w H)) | (refine Ze H ?_; clear H; (try clear w); intro gv w H))
  refine C.cutH H [8, 9, 11, 38, 39, 40, 41, 42, 43, 44, 45, 46, 47, 48, 49, 50] [] rfl (fun vs => ∀ r ∈ rooms, 1 ≤ r ∧ r ≤ 16) ?_ ?_
  · repeat' (first | refine Z H ?_ | (refine Zc ?_ ?_ <;> intro hc <;> first | (exfalso; omega) | skip) | (refine Y ?_; try change C _ _ _ _ _ _) | (refine Zs H ?_; clear H; (try clear w); intro w H) | (refine Zn H ?_; clear H; (try clear w); (first | ((fail_if_success (have := bl1)); intro bl1 w H) | intro _ w H)) | (refine Ze H ?_; clear H; (try clear w); intro gv w H))
    refine C.loopH H [8, 9, 11, 40, 41, 42, 43, 44, 45, 46, 47, 48, 49, 50] [40] rfl (fun m vs => ∃ i : Nat, m = rooms.length - i ∧ i ≤ rooms.length ∧ vs = [.int .i64 (i : Int)] ∧ ∀ k (hk : k < rooms.length), k < i → 1 ≤ rooms[k] ∧ rooms[k] ≤ 16) rooms.length ⟨0, rfl, Nat.zero_le _, rfl, fun k _ h => by omega⟩ ?_
    clear H
    rintro m vs hv w ⟨i, rfl, hi, rfl, hI⟩ H
    by_cases hlt : i < rooms.length
    · obtain ⟨g, o, rfl, hpin⟩ := int_pin hr (by omega)
      have pi := hpin i hlt
      have hstep : 1 ≤ rooms[i] ∧ rooms[i] ≤ 16 → ∀ k (hk : k < rooms.length), k < i + 1 → 1 ≤ rooms[k] ∧ rooms[k] ≤ 16 := fun h0 k hk h => by
        rcases Nat.lt_or_ge k i with h' | h'
        · exact hI k hk h'
        · have : k = i := by omega
          subst this; exact h0
      have hbad := may_r (n := d.secs.length) (xs := xs) (slots := slots) hlt
      generalize rooms[i] = r at *
      repeat' (first | refine Z H ?_ | (refine Zc ?_ ?_ <;> intro hc <;> first | (exfalso; omega) | skip) | (refine Y ?_; try change C _ _ _ _ _ _) | (refine Zs H ?_; clear H; (try clear w); intro w H) | (refine Zn H ?_; clear H; (try clear w); (first | ((fail_if_success (have := bl1)); intro bl1 w H) | intro _ w H)) | (refine Ze H ?_; clear H; (try clear w); intro gv w H))
      all_goals first
        | exact ⟨_, resTT rfl, .inl (hno (hbad (by omega)) (by decide) (Ro.Le.refl _) H)⟩
        | exact ⟨by (repeat (first | exact Agr.refl | exact Agr.hav | refine Agr.upd rfl ?_ | refine Agr.in rfl ?_)), rooms.length - (i + 1), by omega, ⟨i + 1, rfl, by omega, rfl, hstep (by omega)⟩, H⟩
    · repeat' (first | refine Z H ?_ | (refine Zc ?_ ?_ <;> intro hc <;> first | (exfalso; omega) | skip) | (refine Y ?_; try change C _ _ _ _ _ _) | (refine Zs H ?_; clear H; (try clear w); intro w H) | (refine Zn H ?_; clear H; (try clear w); (first | ((fail_if_success (have := bl1)); intro bl1 w H) | intro _ w H)) | (refine Ze H ?_; clear H; (try clear w); intro gv w H))
      exact ⟨by (repeat (first | exact Agr.refl | exact Agr.hav | refine Agr.upd rfl ?_ | refine Agr.in rfl ?_)), fun r hr => by obtain ⟨k, hk, rfl⟩ := List.mem_iff_getElem.1 hr; exact hI k hk (by omega), H⟩
  clear H
  rintro vs hv w h2 H
  repeat' (first | ((fail_if_success (with_reducible show C _ _ _ (Code.seq (Code.seq (Code.region 9 _ _) _) _) _ _)); refine Z H ?_) | (refine Zc ?_ ?_ <;> intro hc <;> first | (exfalso; omega) | skip) | (refine Y ?_; try change C _ _ _ _ _ _) | (refine Zs H ?_; clear H; (try clear w); intro w H) | (refine Zn H ?_; clear H; (try clear w); (first | ((fail_if_success (have := bl1)); intro bl1 w H) | intro _ w H)) | (refine Ze H ?_; clear H; (try clear w); intro gv w H))
  refine C.cutH H [8, 9, 13, 51, 52, 53, 54, 55, 56, 57, 58, 59, 60, 61, 62, 63, 64, 65] [] rfl (fun vs => ∀ v ∈ slots, -1 ≤ v ∧ v < (xs.length : Int)) ?_ ?_
  · repeat' (first | refine Z H ?_ | (refine Zc ?_ ?_ <;> intro hc <;> first | (exfalso; omega) | skip) | (refine Y ?_; try change C _ _ _ _ _ _) | (refine Zs H ?_; clear H; (try clear w); intro w H) | (refine Zn H ?_; clear H; (try clear w); (first | ((fail_if_success (have := bl1)); intro bl1 w H) | intro _ w H)) | (refine Ze H ?_; clear H; (try clear w); intro gv w H))
    refine C.loopH H [8, 9, 13, 53, 54, 55, 56, 57, 58, 59, 60, 61, 62, 63, 64, 65] [53] rfl (fun m vs => ∃ i : Nat, m = slots.length - i ∧ i ≤ slots.length ∧ vs = [.int .i64 (i : Int)] ∧ ∀ k (hk : k < slots.length), k < i → -1 ≤ slots[k] ∧ slots[k] < (xs.length : Int)) slots.length ⟨0, rfl, Nat.zero_le _, rfl, fun k _ h => by omega⟩ ?_
    clear H
    rintro m vs hv w ⟨i, rfl, hi, rfl, hI⟩ H
    by_cases hlt : i < slots.length
    · obtain ⟨g, o, rfl, hpin⟩ := int_pin hl (by omega)
      have pi := hpin i hlt
      have hstep : -1 ≤ slots[i] ∧ slots[i] < (xs.length : Int) → ∀ k (hk : k < slots.length), k < i + 1 → -1 ≤ slots[k] ∧ slots[k] < (xs.length : Int) := fun h0 k hk h => by
        rcases Nat.lt_or_ge k i with h' | h'
        · exact hI k hk h'
        · have : k = i := by omega
          subst this; exact h0
      have hbad := may_s (n := d.secs.length) (xs := xs) (rooms := rooms) hlt
      generalize slots[i] = r at *
      repeat' (first | refine Z H ?_ | (refine Zc ?_ ?_ <;> intro hc <;> first | (exfalso; omega) | skip) | (refine Y ?_; try change C _ _ _ _ _ _) | (refine Zs H ?_; clear H; (try clear w); intro w H) | (refine Zn H ?_; clear H; (try clear w); (first | ((fail_if_success (have := bl1)); intro bl1 w H) | intro _ w H)) | (refine Ze H ?_; clear H; (try clear w); intro gv w H))
      all_goals first
        | exact ⟨_, resTT rfl, .inl (hno (hbad (by omega)) (by decide) (Ro.Le.refl _) H)⟩
        | exact ⟨by (repeat (first | exact Agr.refl | exact Agr.hav | refine Agr.upd rfl ?_ | refine Agr.in rfl ?_)), slots.length - (i + 1), by omega, ⟨i + 1, rfl, by omega, rfl, hstep (by omega)⟩, H⟩
    · repeat' (first | refine Z H ?_ | (refine Zc ?_ ?_ <;> intro hc <;> first | (exfalso; omega) | skip) | (refine Y ?_; try change C _ _ _ _ _ _) | (refine Zs H ?_; clear H; (try clear w); intro w H) | (refine Zn H ?_; clear H; (try clear w); (first | ((fail_if_success (have := bl1)); intro bl1 w H) | intro _ w H)) | (refine Ze H ?_; clear H; (try clear w); intro gv w H))
      exact ⟨by (repeat (first | exact Agr.refl | exact Agr.hav | refine Agr.upd rfl ?_ | refine Agr.in rfl ?_)), fun r hr => by obtain ⟨k, hk, rfl⟩ := List.mem_iff_getElem.1 hr; exact hI k hk (by omega), H⟩
  clear H
  rintro vs hv w h3 H
  repeat' (first | ((fail_if_success (with_reducible show C _ _ _ (Code.seq (Code.seq (Code.region 16 _ _) _) _) _ _)); refine Z H ?_) | (refine Zc ?_ ?_ <;> intro hc <;> first | (exfalso; omega) | skip) | (refine Y ?_; try change C _ _ _ _ _ _) | (refine Zs H ?_; clear H; (try clear w); intro w H) | (refine Zn H ?_; clear H; (try clear w); (first | ((fail_if_success (have := bl1)); intro bl1 w H) | intro _ w H)) | (refine Ze H ?_; clear H; (try clear w); intro gv w H))
  replace H := H.nilRow 33 2
  refine C.cut [8, 9, 14, 16, 66, 67, 68, 69, 70, 71, 72, 73, 74, 75, 76, 77, 78, 79, 80, 81, 82, 83, 84] [14] rfl (fun vs w => ∃ aa cc, vs = [.slice aa (usedX xs).length cc] ∧ (∀ x ∈ xs, x.2 ≠ 0 → liesM x.1 x.2 d.secs.length = true) ∧ Holds s w (row 33 2 (.slice aa (usedX xs).length cc) (usedX xs).length ((usedX xs).flatMap Ext.cells) :: dsk b d :: R)) ?_ ?_
  · repeat' (first | refine Z H ?_ | (refine Zc ?_ ?_ <;> intro hc <;> first | (exfalso; omega) | skip) | (refine Y ?_; try change C _ _ _ _ _ _) | (refine Zs H ?_; clear H; (try clear w); intro w H) | (refine Zn H ?_; clear H; (try clear w); (first | ((fail_if_success (have := bl1)); intro bl1 w H) | intro _ w H)) | (refine Ze H ?_; clear H; (try clear w); intro gv w H))
    refine C.loopS [8, 9, 14, 16, 68, 69, 70, 71, 72, 73, 74, 75, 76, 77, 78, 79, 80, 81, 82, 83, 84] [14, 68] rfl (fun m vs w => ∃ i : Nat, ∃ aa cc, m = xs.length - i ∧ i ≤ xs.length ∧ vs = [.slice aa (usedX (xs.take i)).length cc, .int .i64 (i : Int)] ∧ (∀ k (hk : k < xs.length), k < i → xs[k].2 ≠ 0 → liesM xs[k].1 xs[k].2 d.secs.length = true) ∧ Holds s w (row 33 2 (.slice aa (usedX (xs.take i)).length cc) (usedX (xs.take i)).length ((usedX (xs.take i)).flatMap Ext.cells) :: dsk b d :: R)) xs.length ⟨0, none, 0, rfl, Nat.zero_le _, rfl, fun k _ h => by omega, H⟩ ?_
    clear H
    rintro m vs hv w ⟨i, aa, cc, rfl, hi, rfl, hI, H⟩
    have hbl := usedX_len xs i
    by_cases hlt : i < xs.length
    · obtain ⟨gl, ol, cl, hv2, _, _, hpin⟩ := elemS hx (fun _ _ => rfl) (by decide) (by omega)
      cases hv2
      have pa : ∀ j v, [Value.int .i64 xs[i].1, .int .i64 xs[i].2][j]? = some v → Pin s gl (ol + i * 2 + j) v := hpin i hlt
      have hsn := usedX_succ xs i hlt
      have hxi := hxo xs[i] (List.getElem_mem _)
      have hstep : (xs[i].2 ≠ 0 → liesM xs[i].1 xs[i].2 d.secs.length = true) → ∀ k (hk : k < xs.length), k < i + 1 → xs[k].2 ≠ 0 → liesM xs[k].1 xs[k].2 d.secs.length = true := fun h0 k hk h => by
        rcases Nat.lt_or_ge k i with h' | h'
        · exact hI k hk h'
        · have : k = i := by omega
          subst this; exact h0
      have hbad := may_x (n := d.secs.length) h1 h2 h3 hlt
      generalize xs[i] = x at *
      by_cases hx0 : x.2 = 0
      · rw [if_neg (by simpa using hx0), List.append_nil] at hsn
        repeat' (first | refine Z H ?_ | (refine Zc ?_ ?_ <;> intro hc <;> first | (exfalso; omega) | skip) | (refine Y ?_; try change C _ _ _ _ _ _) | (refine Zs H ?_; clear H; (try clear w); intro w H) | (refine Zn H ?_; clear H; (try clear w); (first | ((fail_if_success (have := bl1)); intro bl1 w H) | intro _ w H)) | (refine Ze H ?_; clear H; (try clear w); intro gv w H))
        refine ⟨by (repeat (first | exact Agr.refl | exact Agr.hav | refine Agr.upd rfl ?_ | refine Agr.in rfl ?_)), xs.length - (i + 1), by omega, i + 1, aa, cc, rfl, by omega, ?_, hstep (fun h => absurd hx0 h), ?_⟩
        · rw [hsn]; rfl
        · rw [hsn]; exact H.arr
      · rw [if_pos (by simpa using hx0)] at hsn
        repeat' (first | refine Z H ?_ | (refine Zc ?_ ?_ <;> intro hc <;> first | (exfalso; omega) | skip) | (refine Y ?_; try change C _ _ _ _ _ _) | (refine Zs H ?_; clear H; (try clear w); intro w H) | (refine Zn H ?_; clear H; (try clear w); (first | ((fail_if_success (have := bl1)); intro bl1 w H) | intro _ w H)) | (refine Ze H ?_; clear H; (try clear w); intro gv w H))
        refine C.drawn2 [bl1] [1, 0, 2, 2, 0] [3, 1] [0, 0, 2, 7, 15] (by kernel_rfl) ?_; replace H := H.drew; simp only [segL, List.take_succ_cons, List.take_zero, List.drop_succ_cons, List.drop_zero]; have H0 := H
        repeat' (first | refine Z H ?_ | (refine Zc ?_ ?_ <;> intro hc <;> first | (exfalso; omega) | skip) | (refine Y ?_; try change C _ _ _ _ _ _) | (refine Zs H ?_; clear H; (try clear w); intro w H) | (refine Zn H ?_; clear H; (try clear w); (first | ((fail_if_success (have := bl1)); intro bl1 w H) | intro _ w H)) | (refine Ze H ?_; clear H; (try clear w); intro gv w H))
        first | (have hT : Holds _ _ (dsk b _ :: _) := H; clear hT) | (replace H := H.up 1 rfl; (try simp only [List.set_cons_zero, List.set_cons_succ, List.eraseIdx_cons_zero, List.eraseIdx_cons_succ] at H); have hT : Holds _ _ (dsk b _ :: _) := H; clear hT) | (replace H := H.up 2 rfl; (try simp only [List.set_cons_zero, List.set_cons_succ, List.eraseIdx_cons_zero, List.eraseIdx_cons_succ] at H); have hT : Holds _ _ (dsk b _ :: _) := H; clear hT) | (replace H := H.up 3 rfl; (try simp only [List.set_cons_zero, List.set_cons_succ, List.eraseIdx_cons_zero, List.eraseIdx_cons_succ] at H); have hT : Holds _ _ (dsk b _ :: _) := H; clear hT) | (replace H := H.up 4 rfl; (try simp only [List.set_cons_zero, List.set_cons_succ, List.eraseIdx_cons_zero, List.eraseIdx_cons_succ] at H); have hT : Holds _ _ (dsk b _ :: _) := H; clear hT) | (replace H := H.up 5 rfl; (try simp only [List.set_cons_zero, List.set_cons_succ, List.eraseIdx_cons_zero, List.eraseIdx_cons_succ] at H); have hT : Holds _ _ (dsk b _ :: _) := H; clear hT) | (replace H := H.up 6 rfl; (try simp only [List.set_cons_zero, List.set_cons_succ, List.eraseIdx_cons_zero, List.eraseIdx_cons_succ] at H); have hT : Holds _ _ (dsk b _ :: _) := H; clear hT)
        (refine X.call (Size_s H) ?_; (try clear H); rintro _ w ⟨rfl, H⟩; refine ⟨_, rfl, ?_⟩); refine L.nil ?_; refine ⟨rfl, rfl, (by repeat (first | exact subN_nil | refine subN_cons (by simp) ?_)), (by first | exact keep_same | (repeat (first | exact keepV H0 H | exact keepP H0 H | exact keep_nil | refine keep_cons ?_ ?_))), ?_⟩; clear H0; have H0 := H
        have hL := Lies_s H hxi.1 hxi.2 (len_i64 hwf)
        cases hli : liesM x.1 x.2 d.secs.length with
        | false =>
          rw [hli] at hL
          (refine X.call (hL) ?_; (try clear H); rintro _ w ⟨rfl, H⟩; refine ⟨_, rfl, ?_⟩); refine L.nil ?_; refine ⟨rfl, rfl, (by repeat (first | exact subN_nil | refine subN_cons (by simp) ?_)), (by first | exact keep_same | (repeat (first | exact keepV H0 H | exact keepP H0 H | exact keep_nil | refine keep_cons ?_ ?_))), ?_⟩; clear H0; have H0 := H
          clear hL
          repeat' (first | refine Z H ?_ | (refine Zc ?_ ?_ <;> intro hc <;> first | (exfalso; omega) | skip) | (refine Y ?_; try change C _ _ _ _ _ _) | (refine Zs H ?_; clear H; (try clear w); intro w H) | (refine Zn H ?_; clear H; (try clear w); (first | ((fail_if_success (have := bl1)); intro bl1 w H) | intro _ w H)) | (refine Ze H ?_; clear H; (try clear w); intro gv w H))
          refine ⟨rfl, rfl, (by repeat (first | exact subN_nil | refine subN_cons (by simp) ?_)), (by first | exact keep_same | (repeat (first | exact keepV H0 H | exact keepP H0 H | exact keep_nil | refine keep_cons ?_ ?_))), ?_⟩; clear H0; have H0 := H
          repeat' (first | refine Z H ?_ | (refine Zc ?_ ?_ <;> intro hc <;> first | (exfalso; omega) | skip) | (refine Y ?_; try change C _ _ _ _ _ _) | (refine Zs H ?_; clear H; (try clear w); intro w H) | (refine Zn H ?_; clear H; (try clear w); (first | ((fail_if_success (have := bl1)); intro bl1 w H) | intro _ w H)) | (refine Ze H ?_; clear H; (try clear w); intro gv w H))
          exact ⟨_, resTT rfl, .inl (hno (hbad hx0 hli) (by decide) (Ro.Le.refl _) H.arr)⟩
        | true =>
          rw [hli] at hL
          (refine X.call (hL) ?_; (try clear H); rintro _ w ⟨rfl, H⟩; refine ⟨_, rfl, ?_⟩); refine L.nil ?_; refine ⟨rfl, rfl, (by repeat (first | exact subN_nil | refine subN_cons (by simp) ?_)), (by first | exact keep_same | (repeat (first | exact keepV H0 H | exact keepP H0 H | exact keep_nil | refine keep_cons ?_ ?_))), ?_⟩; clear H0; have H0 := H
          clear hL
          repeat' (first | refine Z H ?_ | (refine Zc ?_ ?_ <;> intro hc <;> first | (exfalso; omega) | skip) | (refine Y ?_; try change C _ _ _ _ _ _) | (refine Zs H ?_; clear H; (try clear w); intro w H) | (refine Zn H ?_; clear H; (try clear w); (first | ((fail_if_success (have := bl1)); intro bl1 w H) | intro _ w H)) | (refine Ze H ?_; clear H; (try clear w); intro gv w H))
          refine ⟨rfl, rfl, (by repeat (first | exact subN_nil | refine subN_cons (by simp) ?_)), (by first | exact keep_same | (repeat (first | exact keepV H0 H | exact keepP H0 H | exact keep_nil | refine keep_cons ?_ ?_))), ?_⟩; clear H0; have H0 := H
          repeat' (first | refine Z H ?_ | (refine Zc ?_ ?_ <;> intro hc <;> first | (exfalso; omega) | skip) | (refine Y ?_; try change C _ _ _ _ _ _) | (refine Zs H ?_; clear H; (try clear w); intro w H) | (refine Zn H ?_; clear H; (try clear w); (first | ((fail_if_success (have := bl1)); intro bl1 w H) | intro _ w H)) | (refine Ze H ?_; clear H; (try clear w); intro gv w H))
          clear H0
          refine K.one H rfl rfl (by conv => lhs; whnf) (by rfl) (by rfl) ?_; clear H; (try clear w); intro g1 w H
          repeat' (first | (refine X.app H ?_; clear H; intro a3 c3 w H) | refine Z H ?_ | (refine Zc ?_ ?_ <;> intro hc <;> first | (exfalso; omega) | skip) | (refine Y ?_; try change C _ _ _ _ _ _) | (refine Zs H ?_; clear H; (try clear w); intro w H) | (refine Zn H ?_; clear H; (try clear w); (first | ((fail_if_success (have := bl1)); intro bl1 w H) | intro _ w H)) | (refine Ze H ?_; clear H; (try clear w); intro gv w H))
          refine ⟨by (repeat (first | exact Agr.refl | exact Agr.hav | refine Agr.upd rfl ?_ | refine Agr.in rfl ?_)), xs.length - (i + 1), by omega, i + 1, a3, c3, rfl, by omega, ?_, hstep (fun _ => hli), ?_⟩
          · rw [hsn, List.length_append]; rfl
          · rw [hsn, List.length_append, List.flatMap_append]
            exact (show Holds s w (row 33 2 (.slice a3 ((usedX (xs.take i)).length + 1) c3) ((usedX (xs.take i)).length + 1) ((usedX (xs.take i)).flatMap Ext.cells ++ [.int .i64 x.1, .int .i64 x.2]) :: dsk b d :: R) from H.arr)
    · have : i = xs.length := by omega
      subst this
      rw [List.take_length] at H hbl ⊢
      repeat' (first | refine Z H ?_ | (refine Zc ?_ ?_ <;> intro hc <;> first | (exfalso; omega) | skip) | (refine Y ?_; try change C _ _ _ _ _ _) | (refine Zs H ?_; clear H; (try clear w); intro w H) | (refine Zn H ?_; clear H; (try clear w); (first | ((fail_if_success (have := bl1)); intro bl1 w H) | intro _ w H)) | (refine Ze H ?_; clear H; (try clear w); intro gv w H))
      exact ⟨by (repeat (first | exact Agr.refl | exact Agr.hav | refine Agr.upd rfl ?_ | refine Agr.in rfl ?_)), aa, cc, rfl, fun x hx => by obtain ⟨k, hk, rfl⟩ := List.mem_iff_getElem.1 hx; exact hI k hk hk, H⟩
  clear H
  rintro vs hv w ⟨aa, cc, rfl, h4, H⟩
  have hma := may_a h1 h2 h3 h4
  obtain ⟨s1, hs1, H, hrow⟩ := H.fixRow
  have hul : (usedX xs).length ≤ xs.length := List.length_filter_le _ _
  repeat' (first | refine Z H ?_ | (refine Zc ?_ ?_ <;> intro hc <;> first | (exfalso; omega) | skip) | (refine Y ?_; try change C _ _ _ _ _ _) | (refine Zs H ?_; clear H; (try clear w); intro w H) | (refine Zn H ?_; clear H; (try clear w); (first | ((fail_if_success (have := bl1)); intro bl1 w H) | intro _ w H)) | (refine Ze H ?_; clear H; (try clear w); intro gv w H))
  have hAp := Apart_s H hrow (fun x hx => hxo x (List.mem_filter.1 hx).1) (by omega)
  cases hap : apartM (usedX xs) with
  | false =>
    rw [hap] at hAp hma
    (refine X.call (hAp) ?_; (try clear H); rintro _ w ⟨rfl, H⟩; refine ⟨_, rfl, ?_⟩)
    clear hAp
    repeat' (first | refine Z H ?_ | (refine Zc ?_ ?_ <;> intro hc <;> first | (exfalso; omega) | skip) | (refine Y ?_; try change C _ _ _ _ _ _) | (refine Zs H ?_; clear H; (try clear w); intro w H) | (refine Zn H ?_; clear H; (try clear w); (first | ((fail_if_success (have := bl1)); intro bl1 w H) | intro _ w H)) | (refine Ze H ?_; clear H; (try clear w); intro gv w H))
    exact ⟨_, resTT rfl, .inl (hno hma (by decide) hs1 H)⟩
  | true =>
    rw [hap] at hAp hma
    (refine X.call (hAp) ?_; (try clear H); rintro _ w ⟨rfl, H⟩; refine ⟨_, rfl, ?_⟩)
    clear hAp
    simp only [if_true] at hma
    repeat' (first | refine Z H ?_ | (refine Zc ?_ ?_ <;> intro hc <;> first | (exfalso; omega) | skip) | (refine Y ?_; try change C _ _ _ _ _ _) | (refine Zs H ?_; clear H; (try clear w); intro w H) | (refine Zn H ?_; clear H; (try clear w); (first | ((fail_if_success (have := bl1)); intro bl1 w H) | intro _ w H)) | (refine Ze H ?_; clear H; (try clear w); intro gv w H))
    have hlm := hl.mono hs1
    (refine X.call (CloneI_s H (.ro hlm) (by omega)) ?_; (try clear H); rintro _ w ⟨a4, c4, rfl, H⟩; refine ⟨_, rfl, ?_⟩)
    obtain ⟨s2, hs2, H, hslo⟩ := H.fixRow
    repeat' (first | (refine K.build [(1, .slice a4 slots.length c4)] (.agg #[.slice none 0 0, .slice a4 slots.length c4, .int .i64 0]) (build_sched _ _ _) rfl rfl rfl ?_) | refine Z H ?_ | (refine Zc ?_ ?_ <;> intro hc <;> first | (exfalso; omega) | skip) | (refine Y ?_; try change C _ _ _ _ _ _) | (refine Zs H ?_; clear H; (try clear w); intro w H) | (refine Zn H ?_; clear H; (try clear w); (first | ((fail_if_success (have := bl1)); intro bl1 w H) | intro _ w H)) | (refine Ze H ?_; clear H; (try clear w); intro gv w H))
    replace hs2 := hs1.trans hs2
    clear hs1 hrow hlm
    replace H := (H.nilRow 143 70).up 1 rfl
    (try simp only [List.set_cons_zero, List.set_cons_succ, List.eraseIdx_cons_zero, List.eraseIdx_cons_succ] at H)
    refine C.loopS [8, 9, 18, 19, 20, 21, 22, 94, 95, 96, 97, 98, 99, 100, 101, 102, 103, 104, 105, 106, 107, 108, 109, 110, 111, 112, 113, 114, 115, 116, 117, 118, 119, 120, 121, 122, 123, 124, 125, 126, 127] [94] rfl (fun m vs w => ∃ (i : Nat) (s' : Ro) (va : Option Addr) (cap : Nat) (ps : List Pr), m = xs.length - i ∧ i ≤ xs.length ∧ vs = [.int .i64 (i : Int)] ∧ s2.Le s' ∧ ps.length = i ∧ (∀ k (_ : k < ps.length) (_ : k < xs.length) (_ : k < rooms.length), PRep s' b ps[k] (newPM xs[k] rooms[k])) ∧ Holds s' w (var bl1 136 [.slice va i cap, .slice a4 slots.length c4, .int .i64 0] :: row 143 70 (.slice va i cap) i (ps.flatMap Pr.cells) :: dsk b d :: R)) xs.length ⟨0, s2, none, 0, [], rfl, Nat.zero_le _, rfl, Ro.Le.refl _, rfl, fun k h => by simp at h, H⟩ ?_
    clear H
    rintro m vs hv w ⟨i, s3, va, cap, ps, rfl, hi, rfl, hs3, hpl, hP, H⟩
    by_cases hlt : i < xs.length
    · have hltr : i < rooms.length := by omega
      have hx' := hx.mono (hs2.trans hs3)
      have hr' := hr.mono (hs2.trans hs3)
      obtain ⟨gl, ol, cl, hv2, _, _, hpin⟩ := elemS hx' (fun _ _ => rfl) (by decide) (by omega)
      cases hv2
      have pa : ∀ j v, [Value.int .i64 xs[i].1, .int .i64 xs[i].2][j]? = some v → Pin s3 gl (ol + i * 2 + j) v := hpin i hlt
      obtain ⟨gr, orr, rfl, hpinr⟩ := int_pin hr' (by omega)
      have pr := hpinr i hltr
      have hxi := hxo xs[i] (List.getElem_mem _)
      have hri := h2 rooms[i] (List.getElem_mem _)
      have h4i := h4 xs[i] (List.getElem_mem _)
      have hstep : ∀ {s4 : Ro} {p : Pr}, s3.Le s4 → PRep s4 b p (newPM xs[i] rooms[i]) → ∀ k (_ : k < (ps ++ [p]).length) (_ : k < xs.length) (_ : k < rooms.length), PRep s4 b (ps ++ [p])[k] (newPM xs[k] rooms[k]) := fun h0 hp k hk q1 q2 => by
        simp only [List.length_append, List.length_cons, List.length_nil] at hk
        rcases Nat.lt_or_ge k ps.length with h' | h'
        · rw [List.getElem_append_left h']; exact (hP k h' q1 q2).mono h0
        · have : k = i := by omega
          subst this
          rw [List.getElem_append_right (by omega)]
          simpa using hp
      generalize xs[i] = x at *
      generalize rooms[i] = r at *
      by_cases hx0 : x.2 = 0
      · repeat' (first | (refine K.build [(1, .int .i64 r)] (.agg (newPr none r).cells.toArray) (build_part0 _) rfl rfl rfl ?_) | refine Z H ?_ | (refine Zc ?_ ?_ <;> intro hc <;> first | (exfalso; omega) | skip) | (refine Y ?_; try change C _ _ _ _ _ _) | (refine Zs H ?_; clear H; (try clear w); intro w H) | (refine Zn H ?_; clear H; (try clear w); (first | ((fail_if_success (have := bl1)); intro bl1 w H) | intro _ w H)) | (refine Ze H ?_; clear H; (try clear w); intro gv w H))
        refine C.drawn1 [0, 0, 0, 0, 1, 1, 2, 3, 0, 0, 3] [0, 0, 2, 6, 14, 0, 32, 126, 255, 511, 1023] (by kernel_rfl) ?_; replace H := H.drew
        repeat' (first | refine Z H ?_ | (refine Zc ?_ ?_ <;> intro hc <;> first | (exfalso; omega) | skip) | (refine Y ?_; try change C _ _ _ _ _ _) | (refine Zs H ?_; clear H; (try clear w); intro w H) | (refine Zn H ?_; clear H; (try clear w); (first | ((fail_if_success (have := bl1)); intro bl1 w H) | intro _ w H)) | (refine Ze H ?_; clear H; (try clear w); intro gv w H))
        refine K.one H rfl rfl (by conv => lhs; whnf) (by rfl) (by rfl) ?_; clear H; (try clear w); intro g1 w H
        repeat' (first | (refine X.app H ?_ (h1 := (newPr_ok _ _).ones); clear H; intro a5 c5 w H) | refine Z H ?_ | (refine Zc ?_ ?_ <;> intro hc <;> first | (exfalso; omega) | skip) | (refine Y ?_; try change C _ _ _ _ _ _) | (refine Zs H ?_; clear H; (try clear w); intro w H) | (refine Zn H ?_; clear H; (try clear w); (first | ((fail_if_success (have := bl1)); intro bl1 w H) | intro _ w H)) | (refine Ze H ?_; clear H; (try clear w); intro gv w H))
        have H' : Holds s3 w (var bl1 136 [.slice a5 (i + 1) c5, .slice a4 slots.length c4, .int .i64 0] :: row 143 70 (.slice a5 (i + 1) c5) (i + 1) (ps.flatMap Pr.cells ++ (newPr none r).cells) :: dsk b d :: R) := H.arr
        refine ⟨by (repeat (first | exact Agr.refl | exact Agr.hav | refine Agr.upd rfl ?_ | refine Agr.in rfl ?_)), xs.length - (i + 1), by omega, i + 1, s3, a5, c5, ps ++ [newPr none r], rfl, by omega, rfl, hs3, by simp [hpl], hstep (Ro.Le.refl _) (newPr_rep hri hx0), ?_⟩
        rw [List.flatMap_append, List.flatMap_cons, List.flatMap_nil, List.append_nil]; exact H'
      · repeat' (first | (refine K.build [(1, .int .i64 r)] (.agg (newPr none r).cells.toArray) (build_part0 _) rfl rfl rfl ?_) | refine Z H ?_ | (refine Zc ?_ ?_ <;> intro hc <;> first | (exfalso; omega) | skip) | (refine Y ?_; try change C _ _ _ _ _ _) | (refine Zs H ?_; clear H; (try clear w); intro w H) | (refine Zn H ?_; clear H; (try clear w); (first | ((fail_if_success (have := bl1)); intro bl1 w H) | intro _ w H)) | (refine Ze H ?_; clear H; (try clear w); intro gv w H))
        first | (have hT : Holds _ _ (dsk b _ :: _) := H; clear hT) | (replace H := H.up 1 rfl; (try simp only [List.set_cons_zero, List.set_cons_succ, List.eraseIdx_cons_zero, List.eraseIdx_cons_succ] at H); have hT : Holds _ _ (dsk b _ :: _) := H; clear hT) | (replace H := H.up 2 rfl; (try simp only [List.set_cons_zero, List.set_cons_succ, List.eraseIdx_cons_zero, List.eraseIdx_cons_succ] at H); have hT : Holds _ _ (dsk b _ :: _) := H; clear hT) | (replace H := H.up 3 rfl; (try simp only [List.set_cons_zero, List.set_cons_succ, List.eraseIdx_cons_zero, List.eraseIdx_cons_succ] at H); have hT : Holds _ _ (dsk b _ :: _) := H; clear hT) | (replace H := H.up 4 rfl; (try simp only [List.set_cons_zero, List.set_cons_succ, List.eraseIdx_cons_zero, List.eraseIdx_cons_succ] at H); have hT : Holds _ _ (dsk b _ :: _) := H; clear hT) | (replace H := H.up 5 rfl; (try simp only [List.set_cons_zero, List.set_cons_succ, List.eraseIdx_cons_zero, List.eraseIdx_cons_succ] at H); have hT : Holds _ _ (dsk b _ :: _) := H; clear hT) | (replace H := H.up 6 rfl; (try simp only [List.set_cons_zero, List.set_cons_succ, List.eraseIdx_cons_zero, List.eraseIdx_cons_succ] at H); have hT : Holds _ _ (dsk b _ :: _) := H; clear hT)
        (refine X.call (New_p1 (x := x) H hxi (h4i hx0)) ?_; (try clear H); rintro _ w ⟨s4, bp, rfl, hs4, hpt, H⟩; refine ⟨_, rfl, ?_⟩)
        repeat' (first | refine Z H ?_ | (refine Zc ?_ ?_ <;> intro hc <;> first | (exfalso; omega) | skip) | (refine Y ?_; try change C _ _ _ _ _ _) | (refine Zs H ?_; clear H; (try clear w); intro w H) | (refine Zn H ?_; clear H; (try clear w); (first | ((fail_if_success (have := bl1)); intro bl1 w H) | intro _ w H)) | (refine Ze H ?_; clear H; (try clear w); intro gv w H))
        rw [show (newPr none r).cells.set 0 (.pointer (some ⟨bp, 0, none⟩)) = (newPr (some bp) r).cells from rfl] at H
        refine C.drawn1 [0, 0, 0, 0, 1, 1, 2, 3, 0, 0, 3] [0, 0, 2, 6, 14, 0, 32, 126, 255, 511, 1023] (by kernel_rfl) ?_; replace H := H.drew
        repeat' (first | refine Z H ?_ | (refine Zc ?_ ?_ <;> intro hc <;> first | (exfalso; omega) | skip) | (refine Y ?_; try change C _ _ _ _ _ _) | (refine Zs H ?_; clear H; (try clear w); intro w H) | (refine Zn H ?_; clear H; (try clear w); (first | ((fail_if_success (have := bl1)); intro bl1 w H) | intro _ w H)) | (refine Ze H ?_; clear H; (try clear w); intro gv w H))
        refine K.one H rfl rfl (by conv => lhs; whnf) (by rfl) (by rfl) ?_; clear H; (try clear w); intro g1 w H
        repeat' (first | (refine X.app H ?_ (h1 := (newPr_ok _ _).ones); clear H; intro a5 c5 w H) | refine Z H ?_ | (refine Zc ?_ ?_ <;> intro hc <;> first | (exfalso; omega) | skip) | (refine Y ?_; try change C _ _ _ _ _ _) | (refine Zs H ?_; clear H; (try clear w); intro w H) | (refine Zn H ?_; clear H; (try clear w); (first | ((fail_if_success (have := bl1)); intro bl1 w H) | intro _ w H)) | (refine Ze H ?_; clear H; (try clear w); intro gv w H))
        have H' : Holds s4 w (var bl1 136 [.slice a5 (i + 1) c5, .slice a4 slots.length c4, .int .i64 0] :: row 143 70 (.slice a5 (i + 1) c5) (i + 1) (ps.flatMap Pr.cells ++ (newPr (some bp) r).cells) :: dsk b d :: R) := H.arr
        refine ⟨by (repeat (first | exact Agr.refl | exact Agr.hav | refine Agr.upd rfl ?_ | refine Agr.in rfl ?_)), xs.length - (i + 1), by omega, i + 1, s4, a5, c5, ps ++ [newPr (some bp) r], rfl, by omega, rfl, hs3.trans hs4, by simp [hpl], hstep hs4 (newPr_rep' hri hx0 hpt), ?_⟩
        rw [List.flatMap_append, List.flatMap_cons, List.flatMap_nil, List.append_nil]; exact H'
    · have hix : i = xs.length := by omega
      repeat' (first | refine Z H ?_ | (refine Zc ?_ ?_ <;> intro hc <;> first | (exfalso; omega) | skip) | (refine Y ?_; try change C _ _ _ _ _ _) | (refine Zs H ?_; clear H; (try clear w); intro w H) | (refine Zn H ?_; clear H; (try clear w); (first | ((fail_if_success (have := bl1)); intro bl1 w H) | intro _ w H)) | (refine Ze H ?_; clear H; (try clear w); intro gv w H))
      refine ⟨_, resTT rfl, .inr ⟨hma, s3, bl1, rfl, hs2.trans hs3, va, cap, a4, c4, ps, ⟨by simp [SM.new]; omega, fun k q1 q2 => ?_, by simp [SM.new]; omega, by simp [SM.new]; omega, ?_, by simpa [SM.new, List.length_zipWith, h1.1] using h3⟩, hslo.mono hs3, ?_⟩⟩
      · simp only [SM.new, List.getElem_zipWith]
        exact hP k q1 _ _
      · simp only [SM.new]
        cases hsl0 : slots with
        | nil => exact .inr ⟨rfl, trivial⟩
        | cons _ _ => exact .inl (by simp)
      · rw [hpl]; exact H
end
end Go.Proofs.Ytmcojfpomejnnaa
set_option linter.unusedSimpArgs false
set_option linter.unusedVariables false
namespace Go.Proofs.Ytmcojfpomejnnaa
open Go Go.RowKit Go.Own
section
variable {s : Ro} {w : World} {R : List Asn}
end
end Go.Proofs.Ytmcojfpomejnnaa
set_option linter.unusedSimpArgs false
set_option linter.unusedVariables false
namespace Go.Proofs.Ytmcojfpomejnnaa
open Go Go.RowKit Go.Own
/-- an Act of layer 15's laws -/
structure Act15 where
  do_ : Int
  part : Int
  kind : Int
  at_ : Int
  data : Bool
  fill : UInt8
  off : Int
  keepv : Value
  keep : List Bool
def Act15.cells (a : Act15) : List Value := [.int .i64 a.do_, .int .i64 a.part, .int .i64 a.kind, .int .i64 a.at_, .bool a.data, u8 a.fill, .int .i64 a.off, a.keepv]
structure Act15.Ok (s : Ro) (a : Act15) : Prop where
  keep : SlS s a.keepv 1 a.keep.length (a.keep.map Value.bool)
  klen : a.keep.length ≤ 140737488351232
  hd : I64 a.do_
  hp : I64 a.part
  hk : I64 a.kind
  ha : I64 a.at_
  ho : I64 a.off
theorem Act15.Ok.mono {s s' : Ro} {a : Act15} (h : a.Ok s) (hs : s.Le s') : a.Ok s' := ⟨h.keep.mono hs, h.klen, h.hd, h.hp, h.hk, h.ha, h.ho⟩
def Act15.req (a : Act15) : List UInt8 := if a.data then sect a.fill a.off else []
theorem req_len (a : Act15) : a.req.length ≤ 127 := by
  unfold Act15.req; split
  · rw [sect_len]; exact secLen_le _
  · simp
theorem build_req (k a : Int) (w : World) : (Instr.build 45 [(0, .int .i64 k), (1, .int .i64 a)].toArray).run Try.prog w = .ok (.agg #[.int .i64 k, .int .i64 a, .slice none 0 0]) w := by kernel_rfl
section
variable {s : Ro} {w : World} {R : List Asn}
set_option maxRecDepth 100000 in
set_option maxHeartbeats 1000000 in
theorem Request_s {a : Act15} {ka : Option Addr} {kn kc : Nat} (H : Holds s w R) (hk : a.keepv = .slice ka kn kc) : Calls Try.prog 16 #[.agg a.cells.toArray] w fun e w' => ∃ t da dc, e = .returned (.agg #[.int .i64 a.kind, .int .i64 a.at_, .slice da a.req.length dc]) ∧ Holds s w' (row t 1 (.slice da a.req.length dc) a.req.length (u8s a.req) :: R) := by
  obtain ⟨ado, ap, akind, aat, adata, afill, aoff, kv, keep⟩ := a
  simp only at hk
  subst hk
  cases adata with
  | true =>
    refine enter Try.func16 rfl Try.ntmps16 rfl ?_
    repeat' (first | (refine K.build [(0, .int .i64 akind), (1, .int .i64 aat)] (.agg #[.int .i64 akind, .int .i64 aat, .slice none 0 0]) (build_req _ _) rfl rfl rfl ?_) | refine Z H ?_ | (refine Zc ?_ ?_ <;> intro hc <;> first | (exfalso; omega) | skip) | (refine Y ?_; try change C _ _ _ _ _ _) | (refine Zs H ?_; clear H; (try clear w); intro w H) | (refine Zn H ?_; clear H; (try clear w); intro _ w H) | (refine Ze H ?_; clear H; (try clear w); intro gv w H))
    (refine X.call (Sector_s (x := afill) (off := aoff) H) ?_; (try clear H); rintro _ w ⟨t, da, dc, rfl, H⟩; refine ⟨_, rfl, ?_⟩)
    repeat' (first | refine Z H ?_ | (refine Zc ?_ ?_ <;> intro hc <;> first | (exfalso; omega) | skip) | (refine Y ?_; try change C _ _ _ _ _ _) | (refine Zs H ?_; clear H; (try clear w); intro w H) | (refine Zn H ?_; clear H; (try clear w); intro _ w H) | (refine Ze H ?_; clear H; (try clear w); intro gv w H))
    have H' : Holds s w (row t 1 (.slice da (sect afill aoff).length dc) (sect afill aoff).length (u8s (sect afill aoff)) :: R) := H.arr
    exact ⟨_, resV H rfl, t, da, dc, rfl, H'⟩
  | false =>
    refine enter Try.func16 rfl Try.ntmps16 rfl ?_
    repeat' (first | (refine K.build [(0, .int .i64 akind), (1, .int .i64 aat)] (.agg #[.int .i64 akind, .int .i64 aat, .slice none 0 0]) (build_req _ _) rfl rfl rfl ?_) | refine Z H ?_ | (refine Zc ?_ ?_ <;> intro hc <;> first | (exfalso; omega) | skip) | (refine Y ?_; try change C _ _ _ _ _ _) | (refine Zs H ?_; clear H; (try clear w); intro w H) | (refine Zn H ?_; clear H; (try clear w); intro _ w H) | (refine Ze H ?_; clear H; (try clear w); intro gv w H))
    have H' : Holds s w (row 0 1 (.slice none 0 0) 0 [] :: R) := (H.nilRow 0 1).arr
    exact ⟨_, resV H rfl, 0, none, 0, rfl, H'⟩
theorem Request_e {a : Act15} {ka : Option Addr} {kn kc : Nat} (H : Holds s w R) (hk : a.keepv = .slice ka kn kc) : Calls Try.prog 16 #[.agg a.cells.toArray] w fun e w' => ∃ t da dc, e = .returned (.agg #[.int .i64 a.kind, .int .i64 a.at_, .slice da a.req.length dc]) ∧ Only [] w w' ∧ Holds s w' (row t 1 (.slice da a.req.length dc) a.req.length (u8s a.req) :: R) :=
  (Request_s H.full hk).mono fun e w' ⟨t, da, dc, he, H'⟩ => ⟨t, da, dc, he, H.pure1 H'⟩
end
end Go.Proofs.Ytmcojfpomejnnaa
set_option linter.unusedSimpArgs false
set_option linter.unusedVariables false
namespace Go.Proofs.Ytmcojfpomejnnaa
open Go Go.RowKit Go.Own
section
variable {s : Ro} {w : World} {R rs rs' : List Asn} {b bS : Nat} {m : SM} {d : DM}
theorem Sch.arr (h : Sch s w b bS m rs) (T : Arr rs rs' := by infer_instance) : Sch s w b bS m rs' := by
  obtain ⟨va, cap, sa, sc, ps, hr, hsl, H⟩ := h
  exact ⟨va, cap, sa, sc, ps, hr, hsl, H.arr⟩
/-- the schedule, the disk, and what is beside them -/
theorem Sch.close {va sa : Option Addr} {cap sc : Nat} {ps : List Pr} {r1 r2 r3 : List Asn} (hr : SRep s b ps m) (hsl : SlS s (.slice sa m.slots.length sc) 1 m.slots.length (m.slots.map (Value.int .i64))) (H : Holds s w rs)
    (T1 : TakeA rs (var bS 136 [.slice va ps.length cap, .slice sa m.slots.length sc, .int .i64 (m.next : Int)]) r1 := by infer_instance) (T2 : TakeA r1 (row 143 70 (.slice va ps.length cap) ps.length (ps.flatMap Pr.cells)) r2 := by infer_instance) (T3 : TakeA r2 (dsk b d) r3 := by infer_instance) : Sch s w b bS m (dsk b d :: r3) := by
  have i1 := T1
  have i2 := T2
  have i3 := T3
  have a3 : Arr r2 (dsk b d :: r3) := inferInstance
  have a2 : Arr r1 (row 143 70 (.slice va ps.length cap) ps.length (ps.flatMap Pr.cells) :: dsk b d :: r3) := inferInstance
  exact ⟨va, cap, sa, sc, ps, hr, hsl, H.arr⟩
end
theorem build_ints2 (x y : Int) (w : World) : (Instr.buildSlice 22 2 [(0, .int .i64 x), (1, .int .i64 y)].toArray).run Try.prog w = .ok (.slice (some ⟨w.heap.size, 0, none⟩) 2 2) (w.alloc (.cells [.int .i64 x, .int .i64 y].toArray 3)) := by kernel_rfl
section
variable {s : Ro} {w : World} {R : List Asn}
end
end Go.Proofs.Ytmcojfpomejnnaa
