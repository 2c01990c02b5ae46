/- The disk as a piece of memory; the contracts of its functions in that form. -/
import Derived.Test.YteoopnhogfjeaaaDiskJ
import Derived.Test.YteoopnhogfjeaaaTy
import Derived.Test.YteoopnhogfjeaaaSlF
set_option linter.unusedSimpArgs false
set_option linter.unusedVariables false
namespace Go.Proofs.Yteoopnhogfjeaaa
open Go Go.RowKit Go.Own

theorem diskAt_loc {w w' : World} {b : Nat} {d : DM} {F : List Nat} (h : DiskAt w b d F) (hk : ∀ k ∈ F, w'.heap[k]? = w.heap[k]?) : DiskAt w' b d F := by
  obtain ⟨hw, bs, vp, vs, ⟨h1, h2, h3, h4⟩, rfl, hn⟩ := h
  refine ⟨hw, bs, vp, vs, ⟨(hk b (by simp [dfoot])).trans h1, (hk bs (by simp [dfoot])).trans h2, own_kept h3 fun k hv => hk k (by simp [dfoot, hv]), own_kept h4 fun k hv => hk k (by simp [dfoot, hv])⟩, rfl, hn⟩
def dsk (b : Nat) (d : DM) : Asn := ⟨fun w F => DiskAt w b d F, diskAt_loc, fun h => h.lt⟩

section
variable {s : Ro} {w : World} {R : List Asn} {b : Nat} {d : DM}
theorem Holds.wf (H : Holds s w (dsk b d :: R)) : d.Wf := by obtain ⟨F, h⟩ := H.get (i := 0) rfl; exact h.1
/-- a call that turns the disk -/
theorem dsk_to {f : FuncId} {args : Array Value} {v : Value} {d' : DM} (H : Holds s w (dsk b d :: R)) (hc : ∀ F, DiskAt w b d F → Calls Try.prog f args w fun e w' => e = .returned v ∧ DiskTo w w' b d' F) :
    Calls Try.prog f args w fun e w' => e = .returned v ∧ Holds s w' (dsk b d' :: R) := by
  obtain ⟨F, h, k⟩ := H.call
  exact (hc F h).mono fun e w' ⟨he, F', h1, h2, h3⟩ => ⟨he, k (dsk b d') w' F' h1 h3 h2⟩
theorem dsk_same {f : FuncId} {args : Array Value} {v : Value} (H : Holds s w (dsk b d :: R)) (hc : ∀ F, DiskAt w b d F → Calls Try.prog f args w fun e w' => e = .returned v ∧ w = w') :
    Calls Try.prog f args w fun e w' => e = .returned v ∧ Holds s w' (dsk b d :: R) := by
  obtain ⟨F, h, k⟩ := H.call
  exact (hc F h).mono fun e w' ⟨he, h1⟩ => by subst h1; exact ⟨he, H⟩
/-- new bytes as a row of our own -/
theorem new_row {w' : World} {v : Value} {l : List UInt8} {rs : List Asn} (H : Holds s w rs) (h : NewB w w' v l) (ho : Only [] w w') : ∃ t aa cc, v = .slice aa l.length cc ∧ Holds s w' (row t 1 (.slice aa l.length cc) l.length (u8s l) :: rs) := by
  obtain ⟨t, hr⟩ := h
  obtain ⟨aa, cc, rfl, _⟩ := own_sl hr
  refine ⟨t, aa, cc, rfl, H.add (F1 := (Value.slice aa l.length cc).ownBlock.toList) ⟨rfl, own_base hr fun _ _ => Nat.zero_le _⟩ ho (fun k hk => ?_)⟩
  exact (hr.lt k (by simpa using hk)).1

theorem New_s {n : Nat} (H : Holds s w R) (h1 : 1 ≤ n) (h2 : n ≤ 256) : Calls Try.prog 12 #[.int .i64 n] w fun e w' => ∃ b, e = .returned (.tuple #[.pointer (some ⟨b, 0, none⟩), .int .i64 0]) ∧ Holds s w' (dsk b (DM.new n) :: R) :=
  (New_ok n w h1 h2).mono fun e w' ⟨b, F, he, h, hf, ho⟩ => ⟨b, he, H.add (A := dsk b (DM.new n)) h ho hf⟩
theorem Size_s (H : Holds s w (dsk b d :: R)) : Calls Try.prog 15 #[.pointer (some ⟨b, 0, none⟩)] w fun e w' => e = .returned (.int .i64 d.secs.length) ∧ Holds s w' (dsk b d :: R) := dsk_same H fun F h => Size_at b d F w h
theorem On_s (H : Holds s w (dsk b d :: R)) : Calls Try.prog 16 #[.pointer (some ⟨b, 0, none⟩)] w fun e w' => e = .returned (.bool (!d.off)) ∧ Holds s w' (dsk b d :: R) := dsk_same H fun F h => On_at b d F w h
theorem Flush_s (H : Holds s w (dsk b d :: R)) : Calls Try.prog 21 #[.pointer (some ⟨b, 0, none⟩)] w fun e w' => e = .returned (.int .i64 d.flush.2) ∧ Holds s w' (dsk b d.flush.1 :: R) := dsk_to H fun F h => Flush_at b d F w h
theorem Power_s (H : Holds s w (dsk b d :: R)) : Calls Try.prog 51 #[.pointer (some ⟨b, 0, none⟩)] w fun e w' => e = .returned (.tuple #[]) ∧ Holds s w' (dsk b d.power :: R) := dsk_to H fun F h => Power_at b d F w h
theorem Crash_s {v : Value} {sv : List Bool} (H : Holds s w (dsk b d :: R)) (hs : Src s R v 1 sv.length (sv.map Value.bool)) : Calls Try.prog 20 #[.pointer (some ⟨b, 0, none⟩), v] w fun e w' => e = .returned (.tuple #[]) ∧ Holds s w' (dsk b (d.crash sv) :: R) := by
  obtain ⟨F, h, _, hst, _, k⟩ := H.beside hs
  exact (Crash_at b d F v sv w h hst).mono fun e w' ⟨he, F', h1, h2, h3⟩ => ⟨he, k (dsk b (d.crash sv)) w' F' h1 h3 h2⟩
theorem Arm_s {n : Int} {v : Value} {sv : List Bool} (H : Holds s w (dsk b d :: R)) (hs : Src s R v 1 sv.length (sv.map Value.bool)) (hn : n ≤ 9223372036854775807) (hl : sv.length ≤ 140737488355328) : Calls Try.prog 19 #[.pointer (some ⟨b, 0, none⟩), .int .i64 n, v] w fun e w' => e = .returned (.tuple #[]) ∧ Holds s w' (dsk b (d.arm n sv) :: R) := by
  obtain ⟨F, h, _, hst, _, k⟩ := H.beside hs
  exact (Arm_at b d F n v sv w h hst hn hl).mono fun e w' ⟨he, F', h1, h2, h3⟩ => ⟨he, k (dsk b (d.arm n sv)) w' F' h1 h3 h2⟩
theorem Write_s {n : Int} {v : Value} {l : List UInt8} (H : Holds s w (dsk b d :: R)) (hs : Src s R v 1 l.length (u8s l)) (hpl : d.pend.length ≤ 1000000) : Calls Try.prog 22 #[.pointer (some ⟨b, 0, none⟩), .int .i64 n, v] w fun e w' => e = .returned (.int .i64 (d.write n l).2) ∧ Holds s w' (dsk b (d.write n l).1 :: R) := by
  obtain ⟨F, h, _, hst, hd, k⟩ := H.beside hs
  by_cases hl : l = []
  · subst hl
    have hsl := hst.now
    obtain ⟨a, c, rfl, _, h2, h3, _⟩ := hsl
    cases hin : d.inB n with
    | false =>
      have e : d.write n [] = (d, 4) := by simp [DM.write, hin]
      rw [e]
      exact (Write_far b d F n _ w h hin).mono fun e w' ⟨he, h1⟩ => by subst h1; exact ⟨he, H⟩
    | true =>
      have e : d.write n [] = (d, 1) := by simp [DM.write, hin]
      rw [e]
      exact (Write_len b d F n a 0 c w h hin (by decide) (Nat.zero_le _)).mono fun e w' ⟨he, h1⟩ => by subst h1; exact ⟨he, H⟩
  · exact (Write_at b d F n v l w h hst.now (hd (fun h' => hl (by simpa [u8s] using h'))) hpl).mono fun e w' ⟨he, F', h1, h2, h3⟩ => ⟨he, k (dsk b (d.write n l).1) w' F' h1 h3 h2⟩
theorem Has_s {n : Int} (H : Holds s w (dsk b d :: R)) : Calls Try.prog 14 #[.pointer (some ⟨b, 0, none⟩), .int .i64 n] w fun e w' => ∃ t aa cc, e = .returned (.tuple #[.slice aa (d.has n).1.length cc, .int .i64 (d.has n).2]) ∧ Holds s w' (row t 1 (.slice aa (d.has n).1.length cc) (d.has n).1.length (u8s (d.has n).1) :: dsk b d :: R) := by
  obtain ⟨F, h, k⟩ := H.call
  exact (Has_at b d F n w h).mono fun e w' ⟨v, he, h1, h2⟩ => by
    obtain ⟨t, aa, cc, rfl, H'⟩ := new_row H h1 h2
    exact ⟨t, aa, cc, he, H'⟩
theorem Read_s {n : Int} (H : Holds s w (dsk b d :: R)) : Calls Try.prog 25 #[.pointer (some ⟨b, 0, none⟩), .int .i64 n] w fun e w' => ∃ t aa cc, e = .returned (.tuple #[.slice aa (d.read n).1.length cc, .int .i64 (d.read n).2]) ∧ Holds s w' (row t 1 (.slice aa (d.read n).1.length cc) (d.read n).1.length (u8s (d.read n).1) :: dsk b d :: R) := by
  obtain ⟨F, h, k⟩ := H.call
  exact (Read_at b d F n w h).mono fun e w' ⟨v, he, h1, h2⟩ => by
    obtain ⟨t, aa, cc, rfl, H'⟩ := new_row H h1 h2
    exact ⟨t, aa, cc, he, H'⟩
theorem Image_s (H : Holds s w (dsk b d :: R)) : Calls Try.prog 17 #[.pointer (some ⟨b, 0, none⟩)] w fun e w' => ∃ t aa cc, e = .returned (.slice aa d.image.length cc) ∧ Holds s w' (row t 1 (.slice aa d.image.length cc) d.image.length (u8s d.image) :: dsk b d :: R) := by
  obtain ⟨F, h, k⟩ := H.call
  exact (Image_at b d F w h).mono fun e w' ⟨v, he, h1, h2⟩ => by
    obtain ⟨t, aa, cc, rfl, H'⟩ := new_row H h1 h2
    exact ⟨t, aa, cc, he, H'⟩
def sect (x : UInt8) (off : Int) : List UInt8 := List.replicate (secLen off) x
theorem sect_len (x : UInt8) (off : Int) : (sect x off).length = secLen off := by simp [sect]
theorem secLen_le (off : Int) : secLen off ≤ 127 := by unfold secLen; split <;> omega
theorem Sector_s {x : UInt8} {off : Int} (H : Holds s w R) : Calls Try.prog 23 #[.int .u8 x.toNat, .int .i64 off] w fun e w' => ∃ t aa cc, e = .returned (.slice aa (sect x off).length cc) ∧ Holds s w' (row t 1 (.slice aa (sect x off).length cc) (sect x off).length (u8s (sect x off)) :: R) :=
  (Sector_at x off w).mono fun e w' ⟨v, he, h1, h2⟩ => by
    obtain ⟨t, aa, cc, rfl, H'⟩ := new_row H h1 h2
    exact ⟨t, aa, cc, he, H'⟩
theorem awake_s (H : Holds s w R) : Calls Try.prog 13 #[] w fun e w' => e = .returned (.bool true) ∧ Holds s w' R :=
  (awake05 w).mono fun e w' ⟨he, ho⟩ => ⟨he, H.only0 ho⟩
theorem Noughts_s (H : Holds s w R) : Calls Try.prog 18 #[] w fun e w' => e = .returned (.string (zs 64)) ∧ Holds s w' R :=
  (Noughts_at w).mono fun e w' ⟨he, ho⟩ => by subst ho; exact ⟨he, H⟩

/-! ### the disk's parts -/
theorem dsk_open (H : Holds s w (dsk b d :: R)) : ∃ bs vp vs, Holds s w (var b 110 [.slice (some ⟨bs, 0, none⟩) d.secs.length d.secs.length, vp, .bool d.off, .bool d.armed, .int .i64 d.left, vs] :: var bs 112 (u8s d.secs.flatten) :: row 115 65 vp d.pend.length (pcells d.pend) :: row 4 1 vs d.surv.length (d.surv.map Value.bool) :: R) := by
  obtain ⟨hf, F, ⟨F1, F2, rfl, ⟨hw, bs, vp, vs, ⟨h1, h2, h3, h4⟩, rfl, hn⟩, h5, h6⟩, h7⟩ := H
  refine ⟨bs, vp, vs, hf, [b] ++ ([bs] ++ (vp.ownBlock.toList ++ (vs.ownBlock.toList ++ F2))), ⟨_, _, rfl, ⟨rfl, h1⟩, ⟨_, _, rfl, ⟨rfl, h2⟩, ⟨_, _, rfl, ⟨rfl, h3⟩, ⟨_, _, rfl, ⟨rfl, h4⟩, h5, ?_⟩, ?_⟩, ?_⟩, ?_⟩, ?_⟩
  · intro k hk; exact h6 k (by simp only [dfoot, List.mem_cons, List.mem_append]; exact .inr (.inr (.inr hk)))
  · intro k hk hk2
    simp only [dfoot, List.nodup_cons, List.nodup_append] at hn
    rcases List.mem_append.1 hk2 with h | h
    · exact hn.2.2.2.2 k hk k h rfl
    · exact h6 k (by simp only [dfoot, List.mem_cons, List.mem_append]; exact .inr (.inr (.inl hk))) h
  · intro k hk hk2
    simp at hk; subst hk
    simp only [dfoot, List.nodup_cons] at hn
    rcases List.mem_append.1 hk2 with h | h
    · exact hn.2.1 (List.mem_append.2 (.inl h))
    · rcases List.mem_append.1 h with h | h
      · exact hn.2.1 (List.mem_append.2 (.inr h))
      · exact h6 k (by simp [dfoot]) h
  · intro k hk hk2
    simp at hk; subst hk
    simp only [dfoot, List.nodup_cons] at hn
    rcases List.mem_append.1 hk2 with h | h
    · simp at h; subst h; exact hn.1 (by simp)
    · rcases List.mem_append.1 h with h | h
      · exact hn.1 (List.mem_cons.2 (.inr (List.mem_append.2 (.inl h))))
      · rcases List.mem_append.1 h with h | h
        · exact hn.1 (List.mem_cons.2 (.inr (List.mem_append.2 (.inr h))))
        · exact h6 k (by simp [dfoot]) h
  · intro k hk
    refine h7 k ?_
    simp only [dfoot, List.mem_append, List.mem_cons, List.not_mem_nil, or_false] at hk ⊢
    rcases hk with h | h | h | h | h
    · exact .inl (.inl h)
    · exact .inl (.inr (.inl h))
    · exact .inl (.inr (.inr (.inl h)))
    · exact .inl (.inr (.inr (.inr h)))
    · exact .inr h
theorem dsk_close {bs : Nat} {vp vs : Value} {t1 t2 : TypeId} (ht1 : t1 = 110) (ht2 : t2 = 112) (hw : d.Wf) (H : Holds s w (var b t1 [.slice (some ⟨bs, 0, none⟩) d.secs.length d.secs.length, vp, .bool d.off, .bool d.armed, .int .i64 d.left, vs] :: var bs t2 (u8s d.secs.flatten) :: row 115 65 vp d.pend.length (pcells d.pend) :: row 4 1 vs d.surv.length (d.surv.map Value.bool) :: R)) : Holds s w (dsk b d :: R) := by
  subst ht1 ht2
  obtain ⟨hf, F, ⟨F1, G1, rfl, ⟨rfl, h1⟩, ⟨F2, G2, rfl, ⟨rfl, h2⟩, ⟨F3, G3, rfl, ⟨rfl, h3⟩, ⟨F4, G4, rfl, ⟨rfl, h4⟩, h5, d4⟩, d3⟩, d2⟩, d1⟩, h7⟩ := H
  refine ⟨hf, dfoot b bs vp vs ++ G4, ⟨_, _, rfl, ⟨hw, bs, vp, vs, ⟨h1, h2, h3, h4⟩, rfl, ?_⟩, h5, ?_⟩, ?_⟩
  · have e1 := d1 b (by simp)
    have e2 := d2 bs (by simp)
    simp only [List.mem_append, List.mem_singleton, not_or] at e1 e2
    simp only [dfoot, List.nodup_cons, List.mem_cons, List.mem_append, not_or, List.nodup_append]
    refine ⟨⟨e1.1, e1.2.1, e1.2.2.1⟩, ⟨e2.1, e2.2.1⟩, ?_, ?_, ?_⟩
    · cases vp.ownBlock <;> simp
    · cases vs.ownBlock <;> simp
    · intro a ha c hc e
      subst e
      exact d3 a ha (List.mem_append.2 (.inl hc))
  · intro k hk hg
    simp only [dfoot, List.mem_cons, List.mem_append] at hk
    rcases hk with hk | hk | hk | hk
    · exact d1 k (by simp [hk]) (by simp [hg])
    · exact d2 k (by simp [hk]) (by simp [hg])
    · exact d3 k hk (by simp [hg])
    · exact d4 k hk hg
  · intro k hk
    refine h7 k ?_
    simp only [dfoot, List.mem_append, List.mem_cons, List.not_mem_nil, or_false] at hk ⊢
    rcases hk with (h | h | h | h) | h
    · exact .inl h
    · exact .inr (.inl h)
    · exact .inr (.inr (.inl h))
    · exact .inr (.inr (.inr (.inl h)))
    · exact .inr (.inr (.inr (.inr h)))
end
end Go.Proofs.Yteoopnhogfjeaaa
