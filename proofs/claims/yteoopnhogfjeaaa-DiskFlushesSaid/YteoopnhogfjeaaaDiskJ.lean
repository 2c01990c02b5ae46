/- Contracts of the disk's functions, each for every argument; two disks side by side. -/
import Derived.Test.YteoopnhogfjeaaaAwake
set_option linter.unusedSimpArgs false
set_option linter.unusedVariables false
namespace Go.Proofs.Yteoopnhogfjeaaa
open Go Go.RowKit Go.Own

theorem newB_nil (w w' : World) : NewB w w' (.slice none 0 0) [] := ⟨0, World.ownsRow_nil _ _ _ _⟩

theorem Write_at (b : Nat) (d : DM) (F : List Nat) (n : Int) (bv : Value) (l : List UInt8) (w : World) (h : DiskAt w b d F) (hb : Bs w bv l) (hbf : ∀ j, bv.ownBlock = some j → j ∉ F) (hpl : d.pend.length ≤ 1000000) :
    Calls Try.prog 22 #[.pointer (some ⟨b, 0, none⟩), .int .i64 n, bv] w fun e w' => e = .returned (.int .i64 (d.write n l).2) ∧ DiskTo w w' b (d.write n l).1 F := by
  have same : DiskTo w w b d F := ⟨F, h, fun k hk => .inl hk, Only.refl _ _⟩
  cases hin : d.inB n with
  | false =>
    have e : d.write n l = (d, 4) := by simp [DM.write, hin]
    rw [e]
    exact (Write_far b d F n bv w h hin).mono fun e w' ⟨h1, h2⟩ => by subst h2; exact ⟨h1, same⟩
  | true =>
    by_cases hl : l.length = 64
    · have h2 := hin
      simp only [DM.inB, decide_eq_true_eq] at h2
      obtain ⟨k, rfl⟩ := Int.eq_ofNat_of_zero_le h2.1
      exact Write_do b d F k bv l w h (by have := h2.2; omega) hl hb hbf hpl
    · have e : d.write n l = (d, 1) := by simp [DM.write, hin, hl]
      rw [e]
      obtain ⟨ba, bc, rfl, _, h3, h4, _⟩ := hb
      exact (Write_len b d F n ba l.length bc w h hin hl (Nat.le_trans h3 h4)).mono fun e w' ⟨h1, h2⟩ => by subst h2; exact ⟨h1, same⟩

theorem Has_at (b : Nat) (d : DM) (F : List Nat) (n : Int) (w : World) (h : DiskAt w b d F) :
    Calls Try.prog 14 #[.pointer (some ⟨b, 0, none⟩), .int .i64 n] w fun e w' => ∃ v, e = .returned (.tuple #[v, .int .i64 (d.has n).2]) ∧ NewB w w' v (d.has n).1 ∧ Only [] w w' := by
  cases hin : d.inB n with
  | false =>
    have e : d.has n = ([], 4) := by simp [DM.has, hin]
    rw [e]
    have hin' := hin
    simp only [DM.inB, decide_eq_false_iff_not] at hin'
    exact (Has_out b d F n w h (by omega)).mono fun e w' ⟨h1, h2⟩ => by subst h2; exact ⟨_, h1, newB_nil _ _, Only.refl _ _⟩
  | true =>
    have h2 := hin
    simp only [DM.inB, decide_eq_true_eq] at h2
    obtain ⟨k, rfl⟩ := Int.eq_ofNat_of_zero_le h2.1
    have hk : k < d.secs.length := by have := h2.2; omega
    have e : d.has k = (d.secs[k], 0) := by simp [DM.has, hin, DM.sec, hk]
    rw [e]
    exact Has_in b d F k w h hk

theorem Read_at (b : Nat) (d : DM) (F : List Nat) (n : Int) (w : World) (h : DiskAt w b d F) :
    Calls Try.prog 25 #[.pointer (some ⟨b, 0, none⟩), .int .i64 n] w fun e w' => ∃ v, e = .returned (.tuple #[v, .int .i64 (d.read n).2]) ∧ NewB w w' v (d.read n).1 ∧ Only [] w w' := by
  cases hin : d.inB n with
  | false =>
    have e : d.read n = ([], 4) := by simp [DM.read, hin]
    rw [e]
    exact (Read_far b d F n w h hin).mono fun e w' ⟨h1, h2⟩ => by subst h2; exact ⟨_, h1, newB_nil _ _, Only.refl _ _⟩
  | true =>
    cases hoff : d.off with
    | true =>
      have e : d.read n = ([], 9) := by simp [DM.read, hin, hoff]
      rw [e]
      exact (Read_off b d F n w h hin hoff).mono fun e w' ⟨h1, h2⟩ => by subst h2; exact ⟨_, h1, newB_nil _ _, Only.refl _ _⟩
    | false =>
      have h2 := hin
      simp only [DM.inB, decide_eq_true_eq] at h2
      obtain ⟨k, rfl⟩ := Int.eq_ofNat_of_zero_le h2.1
      have hk : k < d.secs.length := by have := h2.2; omega
      have e : d.read k = (d.cur k, 0) := by simp [DM.read, hin, hoff]
      rw [e]
      exact Read_in b d F k w h hk hoff

/-- two disks that share no block; base: all their blocks are from there on -/
structure Two (w : World) (base : Nat) (b : Nat) (d : DM) (F : List Nat) (c : Nat) (x : DM) (G : List Nat) : Prop where
  fst : DiskAt w b d F
  snd : DiskAt w c x G
  dis : ∀ k ∈ F, k ∉ G
  lo1 : ∀ k ∈ F, base ≤ k
  lo2 : ∀ k ∈ G, base ≤ k
theorem Two.only0 {w w' : World} {base b : Nat} {d : DM} {F : List Nat} {c : Nat} {x : DM} {G : List Nat} (h : Two w base b d F c x G) (ho : Only [] w w') : Two w' base b d F c x G :=
  ⟨h.fst.only0 ho, h.snd.only0 ho, h.dis, h.lo1, h.lo2⟩
theorem Two.onto {w w' : World} {base b : Nat} {d : DM} {F : List Nat} {c : Nat} {x : DM} {G : List Nat} (h : Two w base b d F c x G) {S : List Nat} (ho : Only S w w') (h1 : ∀ k ∈ F, k ∉ S) (h2 : ∀ k ∈ G, k ∉ S) : Two w' base b d F c x G :=
  ⟨h.fst.only ho h1, h.snd.only ho h2, h.dis, h.lo1, h.lo2⟩
theorem Two.one {w w' : World} {base b : Nat} {d d' : DM} {F : List Nat} {c : Nat} {x : DM} {G : List Nat} (h : Two w base b d F c x G) (hb : base ≤ w.heap.size) (ht : DiskTo w w' b d' F) : ∃ F', Two w' base b d' F' c x G ∧ Only F w w' ∧ FootOk w F F' := by
  obtain ⟨F', h1, h2, h3⟩ := ht
  refine ⟨F', ⟨h1, h.snd.only h3 (fun k hk hm => h.dis k hm hk), fun k hk hg => ?_, fun k hk => (h2 k hk).elim (h.lo1 k) (fun hle => Nat.le_trans hb hle), h.lo2⟩, h3, h2⟩
  rcases h2 k hk with h4 | h4
  · exact h.dis k h4 hg
  · have := h.snd.lt k hg; omega
theorem Two.two {w w' : World} {base b : Nat} {d : DM} {F : List Nat} {c : Nat} {x x' : DM} {G : List Nat} (h : Two w base b d F c x G) (hb : base ≤ w.heap.size) (ht : DiskTo w w' c x' G) : ∃ G', Two w' base b d F c x' G' ∧ Only G w w' ∧ FootOk w G G' := by
  obtain ⟨G', h1, h2, h3⟩ := ht
  refine ⟨G', ⟨h.fst.only h3 (fun k hk => h.dis k hk), h1, fun k hk hg => ?_, h.lo1, fun k hk => (h2 k hk).elim (h.lo2 k) (fun hle => Nat.le_trans hb hle)⟩, h3, h2⟩
  rcases h2 k hg with h4 | h4
  · exact h.dis k hk h4
  · have := h.fst.lt k hk; omega
end Go.Proofs.Yteoopnhogfjeaaa
