/- Contracts of the disk's functions: powered, Arm, Power. -/
import Derived.Test.YteoopnhogfjeaaaDiskB
set_option linter.unusedSimpArgs false
set_option linter.unusedVariables false
namespace Go.Proofs.Yteoopnhogfjeaaa
open Go Go.RowKit Go.Own

theorem crash_off (b : Nat) (vsv : Value) (w : World) (h0 : w.cell? ⟨b, 2, none⟩ = some (.bool true)) :
    Calls Try.prog 20 #[.pointer (some ⟨b, 0, none⟩), vsv] w fun e w' => e = .returned (.tuple #[]) ∧ w = w' := by
  go_enter Try.func20, Try.ntmps20
  go_wp2
  exact bodyPost_ret (v := .tuple #[]) (by simp [results, Try.results20]) rfl ⟨rfl, rfl⟩

/-- the foot behind a call: old blocks of the disk, or new ones -/
def FootOk (w : World) (F F' : List Nat) : Prop := ∀ k ∈ F', k ∈ F ∨ w.heap.size ≤ k

theorem DiskRaw.lt {w : World} {b : Nat} {d : DM} {bs : Nat} {vp vs : Value} (h : DiskRaw w b d bs vp vs) : ∀ k ∈ dfoot b bs vp vs, k < w.heap.size := by
  intro k hk
  simp only [dfoot, List.mem_cons, List.mem_append, Option.mem_toList] at hk
  rcases hk with rfl | rfl | hk | hk
  · exact lt_of_heap h.1
  · exact lt_of_heap h.2.1
  · exact own_lt h.2.2.1 hk
  · exact own_lt h.2.2.2 hk
theorem DiskAt.lt {w : World} {b : Nat} {d : DM} {F : List Nat} (h : DiskAt w b d F) : ∀ k ∈ F, k < w.heap.size := by
  obtain ⟨_, bs, vp, vs, hr, rfl, _⟩ := h; exact hr.lt
theorem DiskAt.mem {w : World} {b : Nat} {d : DM} {F : List Nat} (h : DiskAt w b d F) : b ∈ F := by
  obtain ⟨_, bs, vp, vs, hr, rfl, _⟩ := h; simp [dfoot]
theorem DiskRaw.only {S : List Nat} {w w' : World} {b : Nat} {d : DM} {bs : Nat} {vp vs : Value} (h : DiskRaw w b d bs vp vs) (ho : Only S w w') (hs : ∀ k ∈ dfoot b bs vp vs, k ∉ S) : DiskRaw w' b d bs vp vs := by
  refine ⟨ho.heap h.1 (hs b (by simp [dfoot])), ho.heap h.2.1 (hs bs (by simp [dfoot])), own_only h.2.2.1 ho (fun k hk => hs k (by simp [dfoot, hk])), own_only h.2.2.2 ho (fun k hk => hs k (by simp [dfoot, hk]))⟩
/-- what other objects do leaves the disk -/
theorem DiskAt.only {S : List Nat} {w w' : World} {b : Nat} {d : DM} {F : List Nat} (h : DiskAt w b d F) (ho : Only S w w') (hs : ∀ k ∈ F, k ∉ S) : DiskAt w' b d F := by
  obtain ⟨hw, bs, vp, vs, hr, rfl, hn⟩ := h
  exact ⟨hw, bs, vp, vs, hr.only ho hs, rfl, hn⟩
theorem DiskAt.drew {w : World} {b : Nat} {d : DM} {F : List Nat} (h : DiskAt w b d F) : DiskAt w.drew b d F := h.only (S := []) (only_drew _ _) (by simp)

theorem DiskAt.c0 {w : World} {b : Nat} {d : DM} {F : List Nat} (h : DiskAt w b d F) : ∃ bs, w.cell? ⟨b, 0, none⟩ = some (.slice (some ⟨bs, 0, none⟩) d.secs.length d.secs.length) := by
  obtain ⟨hw, bs, vp, vs, hr, rfl, hn⟩ := h
  exact ⟨bs, by simp [World.cell?, hr.1]⟩
theorem DiskAt.c2 {w : World} {b : Nat} {d : DM} {F : List Nat} (h : DiskAt w b d F) : w.cell? ⟨b, 2, none⟩ = some (.bool d.off) := by
  obtain ⟨hw, bs, vp, vs, hr, rfl, hn⟩ := h
  simp [World.cell?, hr.1]

theorem Size_at (b : Nat) (d : DM) (F : List Nat) (w : World) (h : DiskAt w b d F) :
    Calls Try.prog 15 #[.pointer (some ⟨b, 0, none⟩)] w fun e w' => e = .returned (.int .i64 d.secs.length) ∧ w = w' := by
  obtain ⟨bs, h0⟩ := h.c0
  exact size_any b _ bs w h0
theorem On_at (b : Nat) (d : DM) (F : List Nat) (w : World) (h : DiskAt w b d F) :
    Calls Try.prog 16 #[.pointer (some ⟨b, 0, none⟩)] w fun e w' => e = .returned (.bool (!d.off)) ∧ w = w' := on_any b _ w h.c2

/-- the disk behind a call that may turn it -/
def DiskTo (w w' : World) (b : Nat) (d : DM) (F : List Nat) : Prop := ∃ F', DiskAt w' b d F' ∧ FootOk w F F' ∧ Only F w w'

theorem crash_core (b : Nat) (d : DM) (bs : Nat) (vp vs : Value) (vsv : Value) (sv : List Bool) (w : World) (hwf : d.Wf) (hraw : DiskRaw w b d bs vp vs) (hnd : (dfoot b bs vp vs).Nodup)
    (hst : Stable w [b, bs] vsv 1 sv.length (sv.map Value.bool)) :
    Calls Try.prog 20 #[.pointer (some ⟨b, 0, none⟩), vsv] w fun e w' => e = .returned (.tuple #[]) ∧ DiskTo w w' b (d.crash sv) (dfoot b bs vp vs) := by
  cases hoff : d.off with
  | true =>
    refine (crash_off b vsv w (by simp [World.cell?, hraw.1, hoff])).mono ?_
    rintro e w' ⟨rfl, rfl⟩
    refine ⟨rfl, dfoot b bs vp vs, ⟨hwf.crash sv, bs, vp, vs, ?_, rfl, hnd⟩, fun k hk => .inl hk, Only.refl _ _⟩
    simpa [DM.crash, hoff] using hraw
  | false =>
    refine (crash_raw b d bs vp vs vsv sv w hwf hraw hnd hoff hst).mono ?_
    rintro e w' ⟨rfl, h1, h2⟩
    have hnb : b ≠ bs := by intro e; subst e; simp [dfoot] at hnd
    refine ⟨rfl, dfoot b bs (.slice none 0 0) (.slice none 0 0), ⟨hwf.crash sv, bs, _, _, h1, rfl, by simp [dfoot, Value.ownBlock, hnb]⟩, fun k hk => .inl ?_, h2.mono fun x hx => .inl ?_⟩
    · simp [dfoot, Value.ownBlock] at hk; rcases hk with rfl | rfl <;> simp [dfoot]
    · simp at hx; rcases hx with rfl | rfl <;> simp [dfoot]

/-- Crash, its survivors outside the disk -/
theorem Crash_at (b : Nat) (d : DM) (F : List Nat) (vsv : Value) (sv : List Bool) (w : World) (h : DiskAt w b d F) (hst : Stable w F vsv 1 sv.length (sv.map Value.bool)) :
    Calls Try.prog 20 #[.pointer (some ⟨b, 0, none⟩), vsv] w fun e w' => e = .returned (.tuple #[]) ∧ DiskTo w w' b (d.crash sv) F := by
  obtain ⟨hw, bs, vp, vs, hr, rfl, hn⟩ := h
  exact crash_core b d bs vp vs vsv sv w hw hr hn fun w' ho => hst w' (ho.mono (fun x hx => .inl (by simp at hx; rcases hx with rfl | rfl <;> simp [dfoot])))

set_option maxHeartbeats 400000 in
theorem powered_at (b : Nat) (d : DM) (F : List Nat) (w : World) (h : DiskAt w b d F) :
    Calls Try.prog 56 #[.pointer (some ⟨b, 0, none⟩)] w fun e w' => e = .returned (.bool d.powered.2) ∧ DiskTo w w' b d.powered.1 F := by
  obtain ⟨hw, bs, vp, vs, hr, rfl, hn⟩ := h
  have c2 : w.cell? ⟨b, 2, none⟩ = some (.bool d.off) := by simp [World.cell?, hr.1]
  have c3 : w.cell? ⟨b, 3, none⟩ = some (.bool d.armed) := by simp [World.cell?, hr.1]
  have c4 : w.cell? ⟨b, 4, none⟩ = some (.int .i64 d.left) := by simp [World.cell?, hr.1]
  have c5 : w.cell? ⟨b, 5, none⟩ = some vs := by simp [World.cell?, hr.1]
  have fz : ∀ o, w.frozen? ⟨b, o, none⟩ = false := by simp [World.frozen?, hr.1]
  have l0 := hw.l0
  have l1 := hw.l1
  have same : ∀ x : Bool, d.powered = (d, x) → DiskTo w w b d.powered.1 (dfoot b bs vp vs) := fun x hx => ⟨_, ⟨hw.powered, bs, vp, vs, by rw [hx]; exact hr, rfl, hn⟩, fun k hk => .inl hk, Only.refl _ _⟩
  cases hoff : d.off with
  | true =>
    have hp : d.powered = (d, false) := by simp [DM.powered, hoff]
    have hs := same _ hp
    rw [hp] at hs ⊢
    rw [hoff] at c2
    have HS := Lib.hid hs
    clear hs same hp hoff hn
    go_enter Try.func56, Try.ntmps56
    go_wp2
    go_ret
    exact ⟨rfl, HS.out⟩
  | false =>
    cases har : d.armed with
    | false =>
      have hp : d.powered = (d, true) := by simp [DM.powered, hoff, har]
      have hs := same _ hp
      rw [hp] at hs ⊢
      rw [hoff] at c2
      rw [har] at c3
      have HS := Lib.hid hs
      clear hs same hp hoff hn har
      go_enter Try.func56, Try.ntmps56
      go_wp2
      go_ret
      exact ⟨rfl, HS.out⟩
    | true =>
      by_cases hl : d.left = 0
      · have hp : d.powered = (d.crash d.surv, false) := by simp [DM.powered, hoff, har, hl]
        rw [hp]
        have hsl := own_sl hr.2.2.2
        have hcon := crash_core b d bs vp vs vs d.surv w hw hr hn (stable_of hsl (fun k hk hm => by
          have hn' := hn
          simp only [dfoot, List.nodup_cons, List.mem_cons, List.mem_append, Option.mem_toList, not_or] at hn'
          simp at hm
          rcases hm with rfl | rfl
          · exact hn'.1.2.2 hk
          · exact hn'.2.1.2 hk))
        rw [hoff] at c2
        rw [har] at c3
        rw [hl] at c4
        have HC := Lib.hid hcon
        clear hcon same hp hoff hn har hl hsl
        go_enter Try.func56, Try.ntmps56
        go_wp2_with (go_at_call 20; refine HC.out.mono ?_; rintro e w' ⟨rfl, hto⟩; have HT := Lib.hid hto; clear hto)
        go_ret
        exact ⟨rfl, HT.out⟩
      · have hp : d.powered = ({ d with left := d.left - 1 }, true) := by simp [DM.powered, hoff, har, hl]
        have hb := hr.1
        have hto : DiskTo w (w.setCell ⟨b, 4, none⟩ (.int .i64 (d.left - 1))) b d.powered.1 (dfoot b bs vp vs) := by
          refine ⟨dfoot b bs vp vs, ⟨hw.powered, bs, vp, vs, ?_, rfl, hn⟩, fun k hk => .inl hk, only_setCell _ _ _ (by simp [dfoot])⟩
          rw [hp]
          have hn' := hn
          simp only [dfoot, List.nodup_cons, List.mem_cons, List.mem_append, Option.mem_toList, not_or] at hn'
          refine ⟨?_, ?_, own_setCell hr.2.2.1 _ hn'.1.2.1, own_setCell hr.2.2.2 _ hn'.1.2.2⟩
          · rw [heap_setCell_same _ _ _ _ _ _ hb]; rfl
          · rw [heap_setCell_other _ _ _ _ (fun e => hn'.1.1 e.symm)]; exact hr.2.1
        rw [hp] at hto ⊢
        have hne : (d.left == 0) = false := by simpa using hl
        have hlt : 0 < d.left := by omega
        rw [hoff] at c2
        rw [har] at c3
        have HT := Lib.hid hto
        clear hto same hp hoff hn har hl hb hr
        go_enter Try.func56, Try.ntmps56
        go_wp2
        go_ret
        exact ⟨rfl, HT.out⟩
end Go.Proofs.Yteoopnhogfjeaaa
