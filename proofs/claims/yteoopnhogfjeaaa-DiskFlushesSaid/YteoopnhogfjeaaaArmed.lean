/- The walk of DiskArmed. -/
import Derived.Test.YteoopnhogfjeaaaDiskJ
import Derived.Test.YteoopnhogfjeaaaArmedL
import Derived.Test.YteoopnhogfjeaaaArgs
import Derived.Deep.DeepCutAuto
import Derived.Deep.LoopGhost
set_option linter.unusedSimpArgs false
set_option linter.unusedVariables false
namespace Go.Proofs.Yteoopnhogfjeaaa
open Go Go.RowKit Go.Own

/-- an Act of layer 5's laws, as it lies in memory -/
structure ActM where
  do_ : Int
  at_ : Int
  off : Int
  fill : UInt8
  keepv : Value
  keep : List Bool
def ActM.cells (a : ActM) : List Value := [.int .i64 a.do_, .int .i64 a.at_, .int .i64 a.off, u8 a.fill, a.keepv]
def ActM.Ok (w : World) (a : ActM) : Prop := Sl w a.keepv 1 a.keep.length (a.keep.map Value.bool) ∧ a.keep.length ≤ 140737488351232 ∧ a.do_ ≤ 9223372036854775807 ∧ -9223372036854775808 ≤ a.do_ ∧ a.at_ ≤ 9223372036854775807 ∧ -9223372036854775808 ≤ a.at_ ∧ a.off ≤ 9223372036854775807 ∧ -9223372036854775808 ≤ a.off
def IsActs (w : World) (v : Value) (l : List ActM) : Prop := Sl w v 5 l.length (l.flatMap ActM.cells) ∧ ∀ a ∈ l, a.Ok w

theorem tAct : RowT Try.prog 38 5 #[.int .i64 0, .int .i64 0, .int .i64 0, .int .u8 0, .slice none 0 0] := ⟨⟨_, Try.underlying38, rfl⟩, by kernel_rfl, by kernel_rfl, rfl⟩

/-- the i-th element of a slice of rows, where it lies -/
theorem sl_elem {α : Type} {f : α → List Value} {w : World} {v : Value} {sz : Nat} {l : List α} (h : Sl w v sz l.length (l.flatMap f)) (hf : ∀ x ∈ l, (f x).length = sz) (hsz : 0 < sz) (hne : 0 < l.length) :
    ∃ g o c, v = .slice (some ⟨g, o, none⟩) l.length c ∧ l.length ≤ c ∧ c ≤ maxLen ∧ g < w.heap.size ∧ ∀ i (hi : i < l.length), w.rangeAt g (o + i * sz) (f l[i]) := by
  obtain ⟨g, o, c, rfl, h1, h2, h3, h4⟩ := sl_some h hne hsz
  refine ⟨g, o, c, rfl, h1, h2, h3, fun i hi j x hx => ?_⟩
  have hj : j < sz := by
    have := (List.getElem?_eq_some_iff.1 hx).1
    rw [hf _ (List.getElem_mem hi)] at this
    exact this
  have : (l.flatMap f)[i * sz + j]? = some x := by
    have hsplit : l = l.take i ++ l[i] :: l.drop (i + 1) := by simp
    have hlen : ((l.take i).flatMap f).length = i * sz := by
      rw [flatMap_len _ (fun y hy => hf y (List.mem_of_mem_take hy)), List.length_take, Nat.min_eq_left (by omega)]
    rw [hsplit, List.flatMap_append, List.flatMap_cons, List.getElem?_append_right (by omega), hlen, Nat.add_sub_cancel_left, List.getElem?_append_left (by rw [hf _ (List.getElem_mem hi)]; exact hj)]
    exact hx
  have h5 := h4 _ _ this
  rw [show o + i * sz + j = o + (i * sz + j) by omega]
  exact h5
theorem range_only {S : List Nat} {w w' : World} {g o : Nat} {cs : List Value} (h : w.rangeAt g o cs) (ho : Only S w w') (hg : g ∉ S) : w'.rangeAt g o cs := fun j v hv => ho.cell (h j v hv) hg

theorem acts_len (l : List ActM) : ∀ x ∈ l, x.cells.length = 5 := fun x _ => rfl

def seg0 (x : UInt8) : List UInt8 := List.replicate 64 x

theorem bools_len {α : Type} (l : List α) : l.length ≤ l.length := Nat.le_refl _

def ArmRel (w : World) (keep : List Bool) (b c : Nat) (m : Nat) (i : Nat) (lft : Int) (wr : World) : Prop :=
  ∃ d x F G, Two wr w.heap.size b d F c x G ∧ Only [] w wr ∧ Inv keep d x lft ∧ d.pend.length ≤ i ∧ d.secs.length = 4

set_option maxRecDepth 100000 in
set_option maxHeartbeats 1000000 in
theorem armed_walk (va : Value) (acts : List ActM) (n : Int) (vk : Value) (keep : List Bool) (w : World) (ha : IsActs w va acts) (hk : Sl w vk 1 keep.length (keep.map Value.bool)) (hkl : keep.length ≤ 140737488351232) (hn : n ≤ 9223372036854775807) :
    Calls Try.prog 4 #[va, .int .i64 n, vk] w fun e w' => e = .returned (.bool true) ∧ Only [] w w' := by
  obtain ⟨hacts, hok⟩ := ha
  obtain ⟨aa, ac, rfl, _, hac, hacm, _⟩ := hacts
  have hacts : Sl w (.slice aa acts.length ac) 5 acts.length (acts.flatMap ActM.cells) := ⟨aa, ac, rfl, ‹_›, hac, hacm, ‹_›⟩
  unfold maxLen at hacm
  have hal : acts.length ≤ 9223372036854775807 := by omega
  have HACTS := Lib.hid hacts
  have HOK := Lib.hid hok
  have HK := Lib.hid hk
  clear hacts hok hk
  obtain ⟨lft, hl30, hcase⟩ : ∃ lft : Int, (0 ≤ lft ∧ lft < 30) ∧ ((0 < n ∧ n % 30 = lft) ∨ (¬ 0 < n ∧ lft = 0)) := by
    by_cases h : 0 < n
    · exact ⟨n % 30, by omega, .inl ⟨h, rfl⟩⟩
    · exact ⟨0, by omega, .inr ⟨h, rfl⟩⟩
  obtain ⟨hl0, hl1⟩ := hl30
  obtain ⟨ln, hln⟩ := Int.eq_ofNat_of_zero_le hl0
  have hinv0 : Inv keep ((DM.new 4).arm lft keep) (DM.new 4) lft := by rw [hln]; exact inv_start keep 4 ln
  have HINV0 := Lib.hid hinv0
  clear hinv0 hln
  rcases hcase with ⟨hpos, heq⟩ | ⟨hpos, rfl⟩
  all_goals
    go_enter Try.func4, Try.ntmps4
    go_wp2_with fail
    refine (New_ok 4 _ (by decide) (by decide)).mono ?_
    rintro e w1 ⟨b, F1, rfl, hd1, hF1, o1⟩
    go_wp2_with fail
    refine (New_ok 4 _ (by decide) (by decide)).mono ?_
    rintro e w2 ⟨c, G1, rfl, hx1, hG1, o2⟩
    have two1 : Two w2 w.heap.size b (DM.new 4) F1 c (DM.new 4) G1 := ⟨hd1.only0 o2, hx1, fun k hk hg => by have := hd1.lt k hk; have := hG1 k hg; omega, hF1, fun k hk => Nat.le_trans o1.size (hG1 k hk)⟩
    have o2' := o1.trans o2
    clear hd1 hx1 hF1 hG1 o1 o2
    go_wp2_with fail
    refine (Arm_at b _ F1 _ vk keep _ two1.fst (stable_arg HK.out o2' two1.lo1) (by omega) (by omega)).mono ?_
    rintro e w3 ⟨rfl, hto⟩
    obtain ⟨F3, two3, o3, _⟩ := two1.one o2'.size hto
    have o3' : Only [] w w3 := o2'.trans' o3 (fun k hk => .inr (two1.lo1 k hk))
    clear two1 hto o2' o3
    have hlen0 : ∀ L, ((DM.new 4).arm L keep).secs.length = 4 ∧ ((DM.new 4).arm L keep).pend.length = 0 := by
      intro L; unfold DM.arm; (repeat' split) <;> simp [DM.new, DM.disarm]
    have HT3 := Lib.hid two3
    have HLEN0 := Lib.hid hlen0
    clear hlen0 two3
    go_wp2_with fail
    go_loopg [11, 12] 50 (fun gk l c' wr => ∃ i : Nat, ∃ lv : Int, gk = 50 - i ∧ i ≤ 40 ∧ i ≤ acts.length ∧ c' = .int .i64 i ∧ l = .int .i64 lv ∧ lv ≤ 40 ∧ ArmRel w keep b c 0 i lv wr)
    case atStart => exact ⟨0, _, rfl, by omega, by omega, rfl, rfl, by omega, ⟨_, _, _, _, HT3.out, o3', HINV0.out, Nat.le_of_eq (HLEN0.out _).2, (HLEN0.out _).1⟩⟩
    case round =>
      obtain ⟨i, lv, rfl, hi40, hil, rfl, rfl, hlv, hrel⟩ := hrel
      have HREL := Lib.hid hrel
      clear hrel
      by_cases hlt : i < acts.length
      · by_cases h40 : i < 40
        · have d1 : decide ((i : Int) < (acts.length : Int)) = true := by simpa using hlt
          have d2 : decide ((i : Int) < 40) = true := by simp; omega
          have hlti : (i : Int) < (acts.length : Int) := by omega
          obtain ⟨d, x, F, G, two, oW, hinv, hpd, hs4⟩ := HREL.out
          obtain ⟨g, o, cc, hva, _, _, hg, hrng⟩ := sl_elem HACTS.out (acts_len acts) (by decide) (by omega)
          cases hva
          have hr := range_only (hrng i hlt) oW (by simp)
          have hok := HOK.out _ (List.getElem_mem hlt)
          generalize acts[i] = A at *
          obtain ⟨ado, aat, aoff, afill, akv, akeep⟩ := A
          have hcl : (ActM.cells ⟨ado, aat, aoff, afill, akv, akeep⟩) = [.int .i64 ado, .int .i64 aat, .int .i64 aoff, u8 afill, akv] := rfl
          rw [hcl] at hr
          have hnb : ∀ k ∈ F, k < wr.heap.size := two.fst.lt
          obtain ⟨h1, h2, h3, h4, h5, h6, h7, h8⟩ := hok
          simp only at h3 h4 h5 h6
          have hao : (#[.int .i64 ado, .int .i64 aat, .int .i64 aoff, u8 afill, akv] : Array Value).all (·.oneCell') = true := by
            obtain ⟨ka, kc, hkv, _⟩ := h1
            simp only at hkv
            subst hkv; simp [Value.oneCell', u8]
          have HAO := Lib.hid hao
          clear hao
          have HR := Lib.hid hr
          clear hr hcl hrng HT3 HLEN0 HINV0 h1 h2 h7 h8
          go_upto_if 54 with (first
            | ((with_reducible show wpList _ _ _ (⟨_, .load _ _, _, _, _, _⟩ :: _) _ _); refine load_row (x := .tmp 50) tAct [.int .i64 ado, .int .i64 aat, .int .i64 aoff, u8 afill, akv] rfl rfl rfl HR.out rfl ?_)
            | ((with_reducible show wpList _ _ _ (⟨_, .alloc _, _, _, _, _⟩ :: _) _ _); refine alloc_row tAct rfl rfl ?_)
            | ((with_reducible show wpList _ _ _ (⟨_, .store _ _ _, _, _, _, _⟩ :: _) _ _); refine store_new (x := .tmp 13) (y := .tmp 51) tAct #[.int .i64 ado, .int .i64 aat, .int .i64 aoff, u8 afill, akv] rfl rfl rfl rfl rfl rfl HAO.out ?_))
          go_cut [14, 15] (fun e f wc => ∃ d x F G ev, e = .int .i64 ev ∧ f = .int .i64 ev ∧ Two wc w.heap.size b d F c x G ∧ Only [] w wc ∧ Inv keep d x (if ev = 0 then lv - 1 else lv) ∧ d.pend.length ≤ i + 1 ∧ d.secs.length = 4)
          case first =>
            have oa : Only [] wr (wr.alloc (.cells #[.int .i64 ado, .int .i64 aat, .int .i64 aoff, u8 afill, akv] 38)) := only_alloc _ _ _
            have twoA := two.only0 oa
            have oWA := oW.trans oa
            have hF : ∀ k ∈ F, k ≠ wr.heap.size := fun k hk hh => by have := hnb k hk; omega
            have hG : ∀ k ∈ G, k ≠ wr.heap.size := fun k hk hh => by have := two.snd.lt k hk; omega
            have hcA : (wr.alloc (.cells #[.int .i64 ado, .int .i64 aat, .int .i64 aoff, u8 afill, akv] 38)).heap[wr.heap.size]? = some (.cells #[.int .i64 ado, .int .i64 aat, .int .i64 aoff, u8 afill, akv] 38) := by rw [heap_alloc_at]; simp
            generalize hWA : wr.alloc (.cells #[.int .i64 ado, .int .i64 aat, .int .i64 aoff, u8 afill, akv] 38) = WA at *
            generalize wr.heap.size = na at *
            clear two oa hWA oW hnb
            by_cases hdo : ado = 4
            · subst hdo
              clear hF
              obtain ⟨e1, e2⟩ := inv_flush hinv
              by_cases hz : lv = 0
              · subst hz
                have hx : xTo keep x 0 true = x.crash keep := by simp [xTo]
                rw [hx] at e1 e2
                clear hx
                have HE1 := Lib.hid e1
                clear e1
                go_wp2_with fail
                refine (Crash_at c x G vk keep _ twoA.snd (stable_arg HK.out oWA twoA.lo2)).mono ?_
                rintro e w4 ⟨rfl, hto⟩
                obtain ⟨G4, two4, o4, hfo⟩ := twoA.two oWA.size hto
                have o4' : Only [] w w4 := oWA.trans' o4 (fun k hk => .inr (twoA.lo2 k hk))
                have hcA4 := o4.heap hcA (fun hk => hG _ hk rfl)
                have hG4 : ∀ k ∈ G4, k ≠ na := fun k hk hh => (hfo k hk).elim (fun h' => hG k h' hh) (fun h' => by have := lt_of_heap hcA; omega)
                clear twoA hto oWA o4 hcA hG hfo

                go_wp2_with fail
                refine (Flush_at b d F _ two4.fst).mono ?_
                rintro e w5 ⟨rfl, hto⟩
                obtain ⟨F5, two5, o5, _⟩ := two4.one o4'.size hto
                have o5' : Only [] w w5 := o4'.trans' o5 (fun k hk => .inr (two4.lo1 k hk))
                clear two4 hto o4' o5 hcA4
                go_wp2_with fail
                refine (Flush_at c (x.crash keep) G4 _ two5.snd).mono ?_
                rintro e w6 ⟨rfl, hto⟩
                obtain ⟨G6, two6, o6, _⟩ := two5.two o5'.size hto
                have o6' : Only [] w w6 := o5'.trans' o6 (fun k hk => .inr (two5.lo2 k hk))
                clear two5 hto o5' o6
                go_wp2_with fail
                go_meet
                exact ⟨_, _, _, _, _, rfl, by rw [HE1.out], two6, o6', e2, Nat.le_trans (pend_flush d) (by omega), by rw [flush_len]; exact hs4⟩
              · have hx : xTo keep x lv true = x := by simp [xTo, hz]
                rw [hx] at e1 e2
                clear hx
                have HE1 := Lib.hid e1
                clear e1
                go_wp2_with fail
                refine (Flush_at b d F _ twoA.fst).mono ?_
                rintro e w5 ⟨rfl, hto⟩
                obtain ⟨F5, two5, o5, _⟩ := twoA.one oWA.size hto
                have o5' : Only [] w w5 := oWA.trans' o5 (fun k hk => .inr (twoA.lo1 k hk))
                clear twoA hto oWA o5 hcA
                go_wp2_with fail
                refine (Flush_at c x G _ two5.snd).mono ?_
                rintro e w6 ⟨rfl, hto⟩
                obtain ⟨G6, two6, o6, _⟩ := two5.two o5'.size hto
                have o6' : Only [] w w6 := o5'.trans' o6 (fun k hk => .inr (two5.lo2 k hk))
                clear two5 hto o5' o6
                go_wp2_with fail
                go_meet
                exact ⟨_, _, _, _, _, rfl, by rw [HE1.out], two6, o6', e2, Nat.le_trans (pend_flush d) (by omega), by rw [flush_len]; exact hs4⟩
            · have hpx0 : x.pend.length ≤ 1000000 := by rw [← hinv.pend]; omega
              have hpx1 : (x.crash keep).pend.length ≤ 1000000 := Nat.le_trans (pend_crash x keep) hpx0
              obtain ⟨e1, e2⟩ := inv_write hinv aat (seg0 afill) (by simp [seg0])
              by_cases hz : lv = 0 ∧ 0 ≤ aat ∧ aat < 4
              · obtain ⟨hz, hz1, hz2⟩ := hz
                subst hz
                have hpx := hpx1
                have hx : xTo keep x 0 (d.inB aat) = x.crash keep := by simp [xTo, DM.inB, hs4, hz1, hz2]
                rw [hx] at e1 e2
                clear hx hpx0 hpx1
                have HE1 := Lib.hid e1
                clear e1
                have z1 : decide (0 ≤ aat) = true := by simpa using hz1
                have z2 : decide (aat < 4) = true := by simpa using hz2
                have caA : WA.cell? ⟨na, 1, none⟩ = some (.int .i64 aat) := by simp [World.cell?, hcA]
                go_wp2_with fail
                refine (Crash_at c x G vk keep _ twoA.snd (stable_arg HK.out oWA twoA.lo2)).mono ?_
                rintro e w4 ⟨rfl, hto⟩
                obtain ⟨G4, two4, o4, hfo⟩ := twoA.two oWA.size hto
                have o4' : Only [] w w4 := oWA.trans' o4 (fun k hk => .inr (twoA.lo2 k hk))
                have hcA4 := o4.heap hcA (fun hk => hG _ hk rfl)
                have hG4 : ∀ k ∈ G4, k ≠ na := fun k hk hh => (hfo k hk).elim (fun h' => hG k h' hh) (fun h' => by have := lt_of_heap hcA; omega)
                clear twoA hto oWA o4 hcA hG hfo

                go_upto_region 20 with fail
                have two4 := two4.only0 (only_drew [] _)
                have o4' := o4'.drew
                have hcA4 := (only_drew [] _).heap hcA4 (by simp)
                refine Reg.region2d [na] [0, 0, 1, 0, 1, 2, 2, 0, 0, 1, 0, 1, 2, 2, 0, 0] [6, 1, 6, 1] [0, 0, 2, 0, 8, 24, 63, 0, 0, 256, 0, 1024, 3199, 8191, 16383, 32767] (by kernel_rfl) ?_
                generalize w4.drew = w4d at *
                simp only [Reg.segW, List.take_succ_cons, List.take_zero, List.drop_succ_cons, List.drop_zero]
                have ca1 : w4d.cell? ⟨na, 1, none⟩ = some (.int .i64 aat) := by simp [World.cell?, hcA4]
                have ca3 : w4d.cell? ⟨na, 3, none⟩ = some (u8 afill) := by simp [World.cell?, hcA4]
                intro Q1 hQ1
                go_wp2_with (go_at_call 23; refine (Sector_at afill 0 _).mono ?_; rintro e w5 ⟨v5, rfl, n5, o5⟩; rw [secLen0] at n5; change NewB _ _ _ (seg0 afill) at n5)
                refine ⟨⟨by rfl, (by intro q hq; have hq' : q ∈ ([na, na] : List Nat) := hq; first | (simp at hq'; done) | (simp at hq' ⊢; omega))⟩, keep_only o5 (by intro k hk; simp at hk; subst hk; exact ⟨by simp, _, _, _, hcA4⟩), ?_⟩
                have s5 := newB_safe n5 two4.fst.lt
                have two5 := two4.only0 o5
                have o5' := o4'.trans o5
                have hcA5 := o5.heap hcA4 (by simp)
                clear n5 two4 o4' o5 hcA4 ca1 ca3
                intro Q2 hQ2
                go_wp2_with fail
                refine (Write_at b d F aat v5 _ _ two5.fst s5.1 (fun k hk => (s5.2 k hk).1) (by omega)).mono ?_
                rintro e w6 ⟨rfl, hto⟩
                obtain ⟨F6, two6, o6, _⟩ := two5.one o5'.size hto
                have o6' : Only [] w w6 := o5'.trans' o6 (fun k hk => .inr (two5.lo1 k hk))
                have hcA6 := o6.heap hcA5 (fun hk => hF _ hk rfl)
                go_wp2_with fail
                refine ⟨⟨by rfl, (by intro q hq; have hq' : q ∈ ([] : List Nat) := hq; first | (simp at hq'; done) | (simp at hq' ⊢; omega))⟩, keep_only o6 (by intro k hk; simp at hk; subst hk; exact ⟨fun hk => hF _ hk rfl, _, _, _, hcA5⟩), ?_⟩
                have ca1 : w6.cell? ⟨na, 1, none⟩ = some (.int .i64 aat) := by simp [World.cell?, hcA6]
                have ca3 : w6.cell? ⟨na, 3, none⟩ = some (u8 afill) := by simp [World.cell?, hcA6]
                clear two5 hto o5' o6 hcA5 s5 hF
                intro Q3 hQ3
                go_wp2_with (go_at_call 23; refine (Sector_at afill 0 _).mono ?_; rintro e w7 ⟨v7, rfl, n7, o7⟩; rw [secLen0] at n7; change NewB _ _ _ (seg0 afill) at n7)
                refine ⟨⟨by rfl, (by intro q hq; have hq' : q ∈ ([na, na] : List Nat) := hq; first | (simp at hq'; done) | (simp at hq' ⊢; omega))⟩, keep_only o7 (by intro k hk; simp at hk; subst hk; exact ⟨by simp, _, _, _, hcA6⟩), ?_⟩
                have s7 := newB_safe n7 two6.snd.lt
                have two7 := two6.only0 o7
                have o7' := o6'.trans o7
                have hcA7 := o7.heap hcA6 (by simp)
                clear n7 two6 o6' o7 hcA6 ca1 ca3
                intro Q4 hQ4
                go_wp2_with fail
                refine (Write_at c (x.crash keep) G4 aat v7 _ _ two7.snd s7.1 (fun k hk => (s7.2 k hk).1) hpx).mono ?_
                rintro e w8 ⟨rfl, hto⟩
                obtain ⟨G8, two8, o8, _⟩ := two7.two o7'.size hto
                have o8' : Only [] w w8 := o7'.trans' o8 (fun k hk => .inr (two7.lo2 k hk))
                go_wp2_with fail
                refine ⟨⟨by rfl, (by intro q hq; have hq' : q ∈ ([] : List Nat) := hq; first | (simp at hq'; done) | (simp at hq' ⊢; omega))⟩, keep_only o8 (by intro k hk; simp at hk; subst hk; exact ⟨fun hk => hG4 _ hk rfl, _, _, _, hcA7⟩), ?_⟩
                clear two7 hto o7' o8 hcA7 s7 hG4
                intro Q5 hQ5
                go_wp2_with fail
                refine ⟨⟨by rfl, (by intro q hq; have hq' : q ∈ ([] : List Nat) := hq; first | (simp at hq'; done) | (simp at hq' ⊢; omega))⟩, ?_⟩
                go_wp2_with fail
                go_meet
                exact ⟨_, _, _, _, _, rfl, by rw [HE1.out], two8, o8', e2, Nat.le_trans (pend_write d _ _) (by omega), by rw [write_len]; exact hs4⟩
              · have hx : xTo keep x lv (d.inB aat) = x := by
                  unfold xTo
                  rw [if_neg]
                  rintro ⟨h1, h2⟩
                  simp only [DM.inB, hs4, decide_eq_true_eq] at h2
                  exact hz ⟨h1, h2.1, by have := h2.2; omega⟩
                have hpx := hpx0
                rw [hx] at e1 e2
                clear hx hpx0 hpx1
                have HE1 := Lib.hid e1
                clear e1
                have ways : (lv = 0 ∧ decide (0 ≤ aat) = true ∧ decide (aat < 4) = false) ∨ (lv = 0 ∧ decide (0 ≤ aat) = false) ∨ ¬ lv = 0 := by
                  by_cases hz0 : lv = 0
                  · by_cases hz1 : 0 ≤ aat
                    · exact .inl ⟨hz0, by simpa using hz1, by have : ¬ aat < 4 := fun h => hz ⟨hz0, hz1, h⟩
                                                              simpa using this⟩
                    · exact .inr (.inl ⟨hz0, by simpa using hz1⟩)
                  · exact .inr (.inr hz0)
                clear hz
                have caA : WA.cell? ⟨na, 1, none⟩ = some (.int .i64 aat) := by simp [World.cell?, hcA]
                rcases ways with ⟨hz0, z1, z2⟩ | ⟨hz0, z1⟩ | hz0
                · subst hz0
                  go_upto_region 20 with fail
                  have twoA := twoA.only0 (only_drew [] _)
                  have oWA := oWA.drew
                  have hcA := (only_drew [] _).heap hcA (by simp)
                  refine Reg.region2d [na] [0, 0, 1, 0, 1, 2, 2, 0, 0, 1, 0, 1, 2, 2, 0, 0] [6, 1, 6, 1] [0, 0, 2, 0, 8, 24, 63, 0, 0, 256, 0, 1024, 3199, 8191, 16383, 32767] (by kernel_rfl) ?_
                  generalize WA.drew = w4d at *
                  simp only [Reg.segW, List.take_succ_cons, List.take_zero, List.drop_succ_cons, List.drop_zero]
                  have ca1 : w4d.cell? ⟨na, 1, none⟩ = some (.int .i64 aat) := by simp [World.cell?, hcA]
                  have ca3 : w4d.cell? ⟨na, 3, none⟩ = some (u8 afill) := by simp [World.cell?, hcA]
                  intro Q1 hQ1
                  go_wp2_with (go_at_call 23; refine (Sector_at afill 0 _).mono ?_; rintro e w5 ⟨v5, rfl, n5, o5⟩; rw [secLen0] at n5; change NewB _ _ _ (seg0 afill) at n5)
                  refine ⟨⟨by rfl, (by intro q hq; have hq' : q ∈ ([na, na] : List Nat) := hq; first | (simp at hq'; done) | (simp at hq' ⊢; omega))⟩, keep_only o5 (by intro k hk; simp at hk; subst hk; exact ⟨by simp, _, _, _, hcA⟩), ?_⟩
                  have s5 := newB_safe n5 twoA.fst.lt
                  have two5 := twoA.only0 o5
                  have o5' := oWA.trans o5
                  have hcA5 := o5.heap hcA (by simp)
                  clear n5 twoA oWA o5 hcA ca1 ca3
                  intro Q2 hQ2
                  go_wp2_with fail
                  refine (Write_at b d F aat v5 _ _ two5.fst s5.1 (fun k hk => (s5.2 k hk).1) (by omega)).mono ?_
                  rintro e w6 ⟨rfl, hto⟩
                  obtain ⟨F6, two6, o6, _⟩ := two5.one o5'.size hto
                  have o6' : Only [] w w6 := o5'.trans' o6 (fun k hk => .inr (two5.lo1 k hk))
                  have hcA6 := o6.heap hcA5 (fun hk => hF _ hk rfl)
                  go_wp2_with fail
                  refine ⟨⟨by rfl, (by intro q hq; have hq' : q ∈ ([] : List Nat) := hq; first | (simp at hq'; done) | (simp at hq' ⊢; omega))⟩, keep_only o6 (by intro k hk; simp at hk; subst hk; exact ⟨fun hk => hF _ hk rfl, _, _, _, hcA5⟩), ?_⟩
                  have ca1 : w6.cell? ⟨na, 1, none⟩ = some (.int .i64 aat) := by simp [World.cell?, hcA6]
                  have ca3 : w6.cell? ⟨na, 3, none⟩ = some (u8 afill) := by simp [World.cell?, hcA6]
                  clear two5 hto o5' o6 hcA5 s5 hF
                  intro Q3 hQ3
                  go_wp2_with (go_at_call 23; refine (Sector_at afill 0 _).mono ?_; rintro e w7 ⟨v7, rfl, n7, o7⟩; rw [secLen0] at n7; change NewB _ _ _ (seg0 afill) at n7)
                  refine ⟨⟨by rfl, (by intro q hq; have hq' : q ∈ ([na, na] : List Nat) := hq; first | (simp at hq'; done) | (simp at hq' ⊢; omega))⟩, keep_only o7 (by intro k hk; simp at hk; subst hk; exact ⟨by simp, _, _, _, hcA6⟩), ?_⟩
                  have s7 := newB_safe n7 two6.snd.lt
                  have two7 := two6.only0 o7
                  have o7' := o6'.trans o7
                  have hcA7 := o7.heap hcA6 (by simp)
                  clear n7 two6 o6' o7 hcA6 ca1 ca3
                  intro Q4 hQ4
                  go_wp2_with fail
                  refine (Write_at c x G aat v7 _ _ two7.snd s7.1 (fun k hk => (s7.2 k hk).1) hpx).mono ?_
                  rintro e w8 ⟨rfl, hto⟩
                  obtain ⟨G8, two8, o8, _⟩ := two7.two o7'.size hto
                  have o8' : Only [] w w8 := o7'.trans' o8 (fun k hk => .inr (two7.lo2 k hk))
                  go_wp2_with fail
                  refine ⟨⟨by rfl, (by intro q hq; have hq' : q ∈ ([] : List Nat) := hq; first | (simp at hq'; done) | (simp at hq' ⊢; omega))⟩, keep_only o8 (by intro k hk; simp at hk; subst hk; exact ⟨fun hk => hG _ hk rfl, _, _, _, hcA7⟩), ?_⟩
                  clear two7 hto o7' o8 hcA7 s7 hG
                  intro Q5 hQ5
                  go_wp2_with fail
                  refine ⟨⟨by rfl, (by intro q hq; have hq' : q ∈ ([] : List Nat) := hq; first | (simp at hq'; done) | (simp at hq' ⊢; omega))⟩, ?_⟩
                  go_wp2_with fail
                  go_meet
                  exact ⟨_, _, _, _, _, rfl, by rw [HE1.out], two8, o8', e2, Nat.le_trans (pend_write d _ _) (by omega), by rw [write_len]; exact hs4⟩
                · subst hz0
                  go_upto_region 20 with fail
                  have twoA := twoA.only0 (only_drew [] _)
                  have oWA := oWA.drew
                  have hcA := (only_drew [] _).heap hcA (by simp)
                  refine Reg.region2d [na] [0, 0, 1, 0, 1, 2, 2, 0, 0, 1, 0, 1, 2, 2, 0, 0] [6, 1, 6, 1] [0, 0, 2, 0, 8, 24, 63, 0, 0, 256, 0, 1024, 3199, 8191, 16383, 32767] (by kernel_rfl) ?_
                  generalize WA.drew = w4d at *
                  simp only [Reg.segW, List.take_succ_cons, List.take_zero, List.drop_succ_cons, List.drop_zero]
                  have ca1 : w4d.cell? ⟨na, 1, none⟩ = some (.int .i64 aat) := by simp [World.cell?, hcA]
                  have ca3 : w4d.cell? ⟨na, 3, none⟩ = some (u8 afill) := by simp [World.cell?, hcA]
                  intro Q1 hQ1
                  go_wp2_with (go_at_call 23; refine (Sector_at afill 0 _).mono ?_; rintro e w5 ⟨v5, rfl, n5, o5⟩; rw [secLen0] at n5; change NewB _ _ _ (seg0 afill) at n5)
                  refine ⟨⟨by rfl, (by intro q hq; have hq' : q ∈ ([na, na] : List Nat) := hq; first | (simp at hq'; done) | (simp at hq' ⊢; omega))⟩, keep_only o5 (by intro k hk; simp at hk; subst hk; exact ⟨by simp, _, _, _, hcA⟩), ?_⟩
                  have s5 := newB_safe n5 twoA.fst.lt
                  have two5 := twoA.only0 o5
                  have o5' := oWA.trans o5
                  have hcA5 := o5.heap hcA (by simp)
                  clear n5 twoA oWA o5 hcA ca1 ca3
                  intro Q2 hQ2
                  go_wp2_with fail
                  refine (Write_at b d F aat v5 _ _ two5.fst s5.1 (fun k hk => (s5.2 k hk).1) (by omega)).mono ?_
                  rintro e w6 ⟨rfl, hto⟩
                  obtain ⟨F6, two6, o6, _⟩ := two5.one o5'.size hto
                  have o6' : Only [] w w6 := o5'.trans' o6 (fun k hk => .inr (two5.lo1 k hk))
                  have hcA6 := o6.heap hcA5 (fun hk => hF _ hk rfl)
                  go_wp2_with fail
                  refine ⟨⟨by rfl, (by intro q hq; have hq' : q ∈ ([] : List Nat) := hq; first | (simp at hq'; done) | (simp at hq' ⊢; omega))⟩, keep_only o6 (by intro k hk; simp at hk; subst hk; exact ⟨fun hk => hF _ hk rfl, _, _, _, hcA5⟩), ?_⟩
                  have ca1 : w6.cell? ⟨na, 1, none⟩ = some (.int .i64 aat) := by simp [World.cell?, hcA6]
                  have ca3 : w6.cell? ⟨na, 3, none⟩ = some (u8 afill) := by simp [World.cell?, hcA6]
                  clear two5 hto o5' o6 hcA5 s5 hF
                  intro Q3 hQ3
                  go_wp2_with (go_at_call 23; refine (Sector_at afill 0 _).mono ?_; rintro e w7 ⟨v7, rfl, n7, o7⟩; rw [secLen0] at n7; change NewB _ _ _ (seg0 afill) at n7)
                  refine ⟨⟨by rfl, (by intro q hq; have hq' : q ∈ ([na, na] : List Nat) := hq; first | (simp at hq'; done) | (simp at hq' ⊢; omega))⟩, keep_only o7 (by intro k hk; simp at hk; subst hk; exact ⟨by simp, _, _, _, hcA6⟩), ?_⟩
                  have s7 := newB_safe n7 two6.snd.lt
                  have two7 := two6.only0 o7
                  have o7' := o6'.trans o7
                  have hcA7 := o7.heap hcA6 (by simp)
                  clear n7 two6 o6' o7 hcA6 ca1 ca3
                  intro Q4 hQ4
                  go_wp2_with fail
                  refine (Write_at c x G aat v7 _ _ two7.snd s7.1 (fun k hk => (s7.2 k hk).1) hpx).mono ?_
                  rintro e w8 ⟨rfl, hto⟩
                  obtain ⟨G8, two8, o8, _⟩ := two7.two o7'.size hto
                  have o8' : Only [] w w8 := o7'.trans' o8 (fun k hk => .inr (two7.lo2 k hk))
                  go_wp2_with fail
                  refine ⟨⟨by rfl, (by intro q hq; have hq' : q ∈ ([] : List Nat) := hq; first | (simp at hq'; done) | (simp at hq' ⊢; omega))⟩, keep_only o8 (by intro k hk; simp at hk; subst hk; exact ⟨fun hk => hG _ hk rfl, _, _, _, hcA7⟩), ?_⟩
                  clear two7 hto o7' o8 hcA7 s7 hG
                  intro Q5 hQ5
                  go_wp2_with fail
                  refine ⟨⟨by rfl, (by intro q hq; have hq' : q ∈ ([] : List Nat) := hq; first | (simp at hq'; done) | (simp at hq' ⊢; omega))⟩, ?_⟩
                  go_wp2_with fail
                  go_meet
                  exact ⟨_, _, _, _, _, rfl, by rw [HE1.out], two8, o8', e2, Nat.le_trans (pend_write d _ _) (by omega), by rw [write_len]; exact hs4⟩
                · go_upto_region 20 with fail
                  have twoA := twoA.only0 (only_drew [] _)
                  have oWA := oWA.drew
                  have hcA := (only_drew [] _).heap hcA (by simp)
                  refine Reg.region2d [na] [0, 0, 1, 0, 1, 2, 2, 0, 0, 1, 0, 1, 2, 2, 0, 0] [6, 1, 6, 1] [0, 0, 2, 0, 8, 24, 63, 0, 0, 256, 0, 1024, 3199, 8191, 16383, 32767] (by kernel_rfl) ?_
                  generalize WA.drew = w4d at *
                  simp only [Reg.segW, List.take_succ_cons, List.take_zero, List.drop_succ_cons, List.drop_zero]
                  have ca1 : w4d.cell? ⟨na, 1, none⟩ = some (.int .i64 aat) := by simp [World.cell?, hcA]
                  have ca3 : w4d.cell? ⟨na, 3, none⟩ = some (u8 afill) := by simp [World.cell?, hcA]
                  intro Q1 hQ1
                  go_wp2_with (go_at_call 23; refine (Sector_at afill 0 _).mono ?_; rintro e w5 ⟨v5, rfl, n5, o5⟩; rw [secLen0] at n5; change NewB _ _ _ (seg0 afill) at n5)
                  refine ⟨⟨by rfl, (by intro q hq; have hq' : q ∈ ([na, na] : List Nat) := hq; first | (simp at hq'; done) | (simp at hq' ⊢; omega))⟩, keep_only o5 (by intro k hk; simp at hk; subst hk; exact ⟨by simp, _, _, _, hcA⟩), ?_⟩
                  have s5 := newB_safe n5 twoA.fst.lt
                  have two5 := twoA.only0 o5
                  have o5' := oWA.trans o5
                  have hcA5 := o5.heap hcA (by simp)
                  clear n5 twoA oWA o5 hcA ca1 ca3
                  intro Q2 hQ2
                  go_wp2_with fail
                  refine (Write_at b d F aat v5 _ _ two5.fst s5.1 (fun k hk => (s5.2 k hk).1) (by omega)).mono ?_
                  rintro e w6 ⟨rfl, hto⟩
                  obtain ⟨F6, two6, o6, _⟩ := two5.one o5'.size hto
                  have o6' : Only [] w w6 := o5'.trans' o6 (fun k hk => .inr (two5.lo1 k hk))
                  have hcA6 := o6.heap hcA5 (fun hk => hF _ hk rfl)
                  go_wp2_with fail
                  refine ⟨⟨by rfl, (by intro q hq; have hq' : q ∈ ([] : List Nat) := hq; first | (simp at hq'; done) | (simp at hq' ⊢; omega))⟩, keep_only o6 (by intro k hk; simp at hk; subst hk; exact ⟨fun hk => hF _ hk rfl, _, _, _, hcA5⟩), ?_⟩
                  have ca1 : w6.cell? ⟨na, 1, none⟩ = some (.int .i64 aat) := by simp [World.cell?, hcA6]
                  have ca3 : w6.cell? ⟨na, 3, none⟩ = some (u8 afill) := by simp [World.cell?, hcA6]
                  clear two5 hto o5' o6 hcA5 s5 hF
                  intro Q3 hQ3
                  go_wp2_with (go_at_call 23; refine (Sector_at afill 0 _).mono ?_; rintro e w7 ⟨v7, rfl, n7, o7⟩; rw [secLen0] at n7; change NewB _ _ _ (seg0 afill) at n7)
                  refine ⟨⟨by rfl, (by intro q hq; have hq' : q ∈ ([na, na] : List Nat) := hq; first | (simp at hq'; done) | (simp at hq' ⊢; omega))⟩, keep_only o7 (by intro k hk; simp at hk; subst hk; exact ⟨by simp, _, _, _, hcA6⟩), ?_⟩
                  have s7 := newB_safe n7 two6.snd.lt
                  have two7 := two6.only0 o7
                  have o7' := o6'.trans o7
                  have hcA7 := o7.heap hcA6 (by simp)
                  clear n7 two6 o6' o7 hcA6 ca1 ca3
                  intro Q4 hQ4
                  go_wp2_with fail
                  refine (Write_at c x G aat v7 _ _ two7.snd s7.1 (fun k hk => (s7.2 k hk).1) hpx).mono ?_
                  rintro e w8 ⟨rfl, hto⟩
                  obtain ⟨G8, two8, o8, _⟩ := two7.two o7'.size hto
                  have o8' : Only [] w w8 := o7'.trans' o8 (fun k hk => .inr (two7.lo2 k hk))
                  go_wp2_with fail
                  refine ⟨⟨by rfl, (by intro q hq; have hq' : q ∈ ([] : List Nat) := hq; first | (simp at hq'; done) | (simp at hq' ⊢; omega))⟩, keep_only o8 (by intro k hk; simp at hk; subst hk; exact ⟨fun hk => hG _ hk rfl, _, _, _, hcA7⟩), ?_⟩
                  clear two7 hto o7' o8 hcA7 s7 hG
                  intro Q5 hQ5
                  go_wp2_with fail
                  refine ⟨⟨by rfl, (by intro q hq; have hq' : q ∈ ([] : List Nat) := hq; first | (simp at hq'; done) | (simp at hq' ⊢; omega))⟩, ?_⟩
                  go_wp2_with fail
                  go_meet
                  exact ⟨_, _, _, _, _, rfl, by rw [HE1.out], two8, o8', e2, Nat.le_trans (pend_write d _ _) (by omega), by rw [write_len]; exact hs4⟩
          case rest =>
            obtain ⟨d', x', F', G', ev, rfl, rfl, two', o', inv', hp', hs4'⟩ := hcut
            have himg : x'.image = d'.image := by unfold DM.image; rw [inv'.secs]
            have hoff : x'.off = d'.off := inv'.off.symm
            have hil' : 0 < d'.image.length := by
              have := flat_len two'.fst.1.sec
              rw [hs4'] at this
              show 0 < d'.secs.flatten.length
              omega
            have HIMG := Lib.hid himg
            have HOFF := Lib.hid hoff
            have hl0' := inv'.l0
            clear himg hoff two hinv hnb hs4 hpd oW
            obtain ⟨lv', hlv', hcase'⟩ : ∃ lv' : Int, (lv' = if ev = 0 then lv - 1 else lv) ∧ ((ev = 0 ∧ lv - 1 = lv') ∨ (¬ ev = 0 ∧ lv = lv')) := by
              by_cases hev : ev = 0
              · exact ⟨lv - 1, by rw [if_pos hev], .inl ⟨hev, rfl⟩⟩
              · exact ⟨lv, by rw [if_neg hev], .inr ⟨hev, rfl⟩⟩
            rw [← hlv'] at inv' hl0'
            clear hlv'
            rcases hcase' with ⟨hev, hlvv⟩ | ⟨hev, hlvv⟩
            · subst hev
              have hlo : -9223372036854775808 ≤ lv - 1 := by omega
              have hhi : lv - 1 ≤ 9223372036854775807 := by omega
              subst hlvv
              go_upto_region 23 with fail
              have two' := two'.only0 (only_drew [] _)
              have o' := o'.drew
              refine Reg.region3d [0, 0, 0, 0, 0, 2, 0, 2, 0, 0, 0, 0, 2, 1, 0, 2, 1, 0, 0] [6, 2, 5, 3] [0, 0, 3, 7, 15, 31, 15, 127, 255, 511, 1023, 2047, 4095, 8191, 2047, 24575, 57343, 131071, 262143] (by kernel_rfl) ?_
              generalize wc.drew = wd at *
              simp only [Reg.segE, List.take_succ_cons, List.take_zero, List.drop_succ_cons, List.drop_zero]
              intro Q1 hQ1
              go_wp2_with (go_at_call 16; refine (On_at b d' F' _ two'.fst).mono ?_; rintro e w' ⟨rfl, rfl⟩)
              refine ⟨by rfl, Reg.likes_ext.refl _, ?_⟩
              intro Q2 hQ2
              go_wp2_with (go_at_call 16; refine (On_at c x' G' _ two'.snd).mono ?_; rintro e w' ⟨rfl, rfl⟩; rw [HOFF.out])
              refine ⟨by rfl, Reg.likes_ext.refl _, ?_⟩
              intro Q3 hQ3
              go_wp2_with (go_at_call 17; refine (Image_at b d' F' _ two'.fst).mono ?_; rintro e w4 ⟨v4, rfl, n4, o4⟩; obtain ⟨g4, p4, c4, rfl, _⟩ := sl_some (newB_bs n4) hil' (by decide))
              refine ⟨by rfl, ext_only o4, ?_⟩
              have b4 := newB_bs n4
              have two4 := two'.only0 o4
              have o4' := o'.trans o4
              clear n4 two' o' o4
              intro Q4 hQ4
              go_wp2_with (first
                | ((with_reducible show wpList _ _ _ (⟨_, .convert _ _ _, _, _, _, _⟩ :: _) _ _); refine conv_string_g (x := .tmp 109) (v := .slice (some ⟨g4, p4, none⟩) d'.image.length c4) Try.underlying27 Try.underlying5 Try.underlying9 rfl rfl rfl b4 ?_)
                | (go_at_call 17; refine (Image_at c x' G' _ two4.snd).mono ?_; rintro e w5 ⟨v5, rfl, n5, o5⟩; rw [HIMG.out] at n5; obtain ⟨g5, p5, c5, rfl, _⟩ := sl_some (newB_bs n5) hil' (by decide)))
              refine ⟨by rfl, ext_only o5, ?_⟩
              have b5 := newB_bs n5
              have two5 := two4.only0 o5
              have o5' := o4'.trans o5
              clear n5 two4 o4' o5 b4
              intro Q5 hQ5
              go_wp2_with ((with_reducible show wpList _ _ _ (⟨_, .convert _ _ _, _, _, _, _⟩ :: _) _ _); refine conv_string_g (x := .tmp 112) (v := .slice (some ⟨g5, p5, none⟩) d'.image.length c5) Try.underlying27 Try.underlying5 Try.underlying9 rfl rfl rfl b5 ?_)
              refine ⟨by rfl, ?_⟩
              go_wp2_with fail
              go_roundg (50 - (i + 1))
              case rel => exact ⟨i + 1, _, rfl, by omega, by omega, by go_num, rfl, by omega, ⟨_, _, _, _, two5, o5', inv', hp', hs4'⟩⟩
              case measure => omega
            · subst hlvv
              go_upto_region 23 with fail
              have two' := two'.only0 (only_drew [] _)
              have o' := o'.drew
              refine Reg.region3d [0, 0, 0, 0, 0, 2, 0, 2, 0, 0, 0, 0, 2, 1, 0, 2, 1, 0, 0] [6, 2, 5, 3] [0, 0, 3, 7, 15, 31, 15, 127, 255, 511, 1023, 2047, 4095, 8191, 2047, 24575, 57343, 131071, 262143] (by kernel_rfl) ?_
              generalize wc.drew = wd at *
              simp only [Reg.segE, List.take_succ_cons, List.take_zero, List.drop_succ_cons, List.drop_zero]
              intro Q1 hQ1
              go_wp2_with (go_at_call 16; refine (On_at b d' F' _ two'.fst).mono ?_; rintro e w' ⟨rfl, rfl⟩)
              refine ⟨by rfl, Reg.likes_ext.refl _, ?_⟩
              intro Q2 hQ2
              go_wp2_with (go_at_call 16; refine (On_at c x' G' _ two'.snd).mono ?_; rintro e w' ⟨rfl, rfl⟩; rw [HOFF.out])
              refine ⟨by rfl, Reg.likes_ext.refl _, ?_⟩
              intro Q3 hQ3
              go_wp2_with (go_at_call 17; refine (Image_at b d' F' _ two'.fst).mono ?_; rintro e w4 ⟨v4, rfl, n4, o4⟩; obtain ⟨g4, p4, c4, rfl, _⟩ := sl_some (newB_bs n4) hil' (by decide))
              refine ⟨by rfl, ext_only o4, ?_⟩
              have b4 := newB_bs n4
              have two4 := two'.only0 o4
              have o4' := o'.trans o4
              clear n4 two' o' o4
              intro Q4 hQ4
              go_wp2_with (first
                | ((with_reducible show wpList _ _ _ (⟨_, .convert _ _ _, _, _, _, _⟩ :: _) _ _); refine conv_string_g (x := .tmp 109) (v := .slice (some ⟨g4, p4, none⟩) d'.image.length c4) Try.underlying27 Try.underlying5 Try.underlying9 rfl rfl rfl b4 ?_)
                | (go_at_call 17; refine (Image_at c x' G' _ two4.snd).mono ?_; rintro e w5 ⟨v5, rfl, n5, o5⟩; rw [HIMG.out] at n5; obtain ⟨g5, p5, c5, rfl, _⟩ := sl_some (newB_bs n5) hil' (by decide)))
              refine ⟨by rfl, ext_only o5, ?_⟩
              have b5 := newB_bs n5
              have two5 := two4.only0 o5
              have o5' := o4'.trans o5
              clear n5 two4 o4' o5 b4
              intro Q5 hQ5
              go_wp2_with ((with_reducible show wpList _ _ _ (⟨_, .convert _ _ _, _, _, _, _⟩ :: _) _ _); refine conv_string_g (x := .tmp 112) (v := .slice (some ⟨g5, p5, none⟩) d'.image.length c5) Try.underlying27 Try.underlying5 Try.underlying9 rfl rfl rfl b5 ?_)
              refine ⟨by rfl, ?_⟩
              go_wp2_with fail
              go_roundg (50 - (i + 1))
              case rel => exact ⟨i + 1, _, rfl, by omega, by omega, by go_num, rfl, by omega, ⟨_, _, _, _, two5, o5', inv', hp', hs4'⟩⟩
              case measure => omega
        · -- END40
          obtain ⟨d, x, F, G, two, oW, _⟩ := HREL.out
          clear HREL HT3 HLEN0 HINV0
          have d1 : decide ((i : Int) < (acts.length : Int)) = true := by simpa using hlt
          have d2 : decide ((i : Int) < 40) = false := by simp; omega
          have hlti : (i : Int) < (acts.length : Int) := by omega
          go_wp2_with (go_at_call 13; refine (awake05 _).mono ?_; rintro e w5 ⟨rfl, o5⟩)
          go_ret
          exact ⟨rfl, oW.trans o5⟩
      · obtain ⟨d, x, F, G, two, oW, _⟩ := HREL.out
        clear HREL HT3 HLEN0 HINV0
        have d1 : decide ((i : Int) < (acts.length : Int)) = false := by simpa using hlt
        have hlti : ¬ (i : Int) < (acts.length : Int) := by omega
        go_wp2_with (go_at_call 13; refine (awake05 _).mono ?_; rintro e w5 ⟨rfl, o5⟩)
        go_ret
        exact ⟨rfl, oW.trans o5⟩
end Go.Proofs.Yteoopnhogfjeaaa
