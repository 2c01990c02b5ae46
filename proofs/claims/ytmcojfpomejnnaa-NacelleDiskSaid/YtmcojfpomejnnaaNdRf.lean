/- The document's disk (nacelleref05) as it lies in memory; contracts of its functions, over the same plain data DM. The document's disk (nacelleref05) as it lies in memory that is only read; contracts of its functions, over the same plain data DM. More contracts of the document's disk (nacelleref05). More contracts of the document's disk (nacelleref05): Read, Image, Load, New. Contracts of the disk's Waiting and Load. -/
import Derived.Test.YtmcojfpomejnnaaNdDk
import Derived.Test.YtmcojfpomejnnaaNdK4
import Derived.Test.YtmcojfpomejnnaaNdK3
set_option linter.unusedSimpArgs false
set_option linter.unusedVariables false
namespace Go.Proofs.Ytmcojfpomejnnaa
open Go Go.RowKit Go.Own
/-- a slice that reads xs; R holds its block, where it has elements -/
def Rd (w : World) (v : Value) (sz n : Nat) (xs : List Value) (R : List Nat) : Prop := Sl w v sz n xs ∧ (xs ≠ [] → ∀ k, v.ownBlock = some k → k ∈ R ∧ k < w.heap.size)
theorem Rd.only {w w' : World} {v : Value} {sz n : Nat} {xs : List Value} {R S : List Nat} (h : Rd w v sz n xs R) (ho : Only S w w') (hd : ∀ k ∈ R, k ∉ S) : Rd w' v sz n xs R := by
  by_cases hx : xs = []
  · subst hx
    exact ⟨sl_nil_any h.1, fun hh => absurd rfl hh⟩
  · exact ⟨h.1.only ho (fun k hk => hd k (h.2 hx k hk).1), fun _ k hk => ⟨(h.2 hx k hk).1, Nat.lt_of_lt_of_le (h.2 hx k hk).2 ho.size⟩⟩
theorem Rd.mono {w : World} {v : Value} {sz n : Nat} {xs : List Value} {R R' : List Nat} (h : Rd w v sz n xs R) (hr : ∀ k ∈ R, k ∈ R') : Rd w v sz n xs R' :=
  ⟨h.1, fun hx k hk => ⟨hr _ (h.2 hx k hk).1, (h.2 hx k hk).2⟩⟩
theorem Rd.nil (w : World) (sz : Nat) (R : List Nat) : Rd w (.slice none 0 0) sz 0 [] R :=
  ⟨⟨none, 0, rfl, by simp, Nat.le_refl _, Nat.zero_le _, fun j x hx => by simp at hx⟩, fun h => absurd rfl h⟩
def bst (l : List UInt8) : ByteArray := ⟨l.toArray⟩
theorem bst_inj {l m : List UInt8} (h : bst l = bst m) : l = m := by
  unfold bst at h
  injection h with h
  exact List.toArray_inj h
def strs (l : List (List UInt8)) : List Value := l.map fun s => .string (bst s)
def rwr (p : Nat × List UInt8) : List Value := [.int .i64 (p.1 : Int), .string (bst p.2)]
/-- the document's disk: the value v reads as d; R: the blocks that it reads -/
structure RefAt (w : World) (v : Value) (d : DM) (R : List Nat) : Prop where
  wf : d.Wf
  lies : ∃ vh vw vs surv, v = .agg #[vh, vw, .bool d.off, .int .i64 (if d.armed then d.left else -1), vs] ∧ Rd w vh 1 d.secs.length (strs d.secs) R ∧ Rd w vw 2 d.pend.length (d.pend.flatMap rwr) R ∧ Rd w vs 1 surv.length (surv.map Value.bool) R ∧ (d.armed = true → surv = d.surv)
theorem RefAt.only {w w' : World} {v : Value} {d : DM} {R S : List Nat} (h : RefAt w v d R) (ho : Only S w w') (hd : ∀ k ∈ R, k ∉ S) : RefAt w' v d R := by
  obtain ⟨hw, vh, vw, vs, sv, h1, h2, h3, h4, h5⟩ := h
  exact ⟨hw, vh, vw, vs, sv, h1, h2.only ho hd, h3.only ho hd, h4.only ho hd, h5⟩
theorem RefAt.mono {w : World} {v : Value} {d : DM} {R R' : List Nat} (h : RefAt w v d R) (hr : ∀ k ∈ R, k ∈ R') : RefAt w v d R' := by
  obtain ⟨hw, vh, vw, vs, sv, h1, h2, h3, h4, h5⟩ := h
  exact ⟨hw, vh, vw, vs, sv, h1, h2.mono hr, h3.mono hr, h4.mono hr, h5⟩
end Go.Proofs.Ytmcojfpomejnnaa
set_option linter.unusedSimpArgs false
set_option linter.unusedVariables false
namespace Go.Proofs.Ytmcojfpomejnnaa
open Go Go.RowKit Go.Own
/-- the document's disk: the value v reads as d -/
def RefS (s : Ro) (v : Value) (d : DM) : Prop := d.Wf ∧ ∃ ah ch aw cw sa sc lf surv,
  v = .agg #[.slice ah d.secs.length ch, .slice aw d.pend.length cw, .bool d.off, .int .i64 lf, .slice sa (List.length surv) sc] ∧
  SlS s (.slice ah d.secs.length ch) 1 d.secs.length (strs d.secs) ∧ SlS s (.slice aw d.pend.length cw) 2 d.pend.length (d.pend.flatMap rwr) ∧ SlS s (.slice sa surv.length sc) 1 surv.length (surv.map Value.bool) ∧
  (d.armed = true → lf = d.left ∧ surv = d.surv) ∧ (d.armed = false → lf = -1)
theorem RefS.mono {s s' : Ro} {v : Value} {d : DM} (h : RefS s v d) (hs : s.Le s') : RefS s' v d := by
  obtain ⟨hw, ah, ch, aw, cw, sa, sc, lf, surv, h1, h2, h3, h4, h5⟩ := h
  exact ⟨hw, ah, ch, aw, cw, sa, sc, lf, surv, h1, h2.mono hs, h3.mono hs, h4.mono hs, h5⟩
end Go.Proofs.Ytmcojfpomejnnaa
set_option linter.unusedSimpArgs false
set_option linter.unusedVariables false
namespace Go.Proofs.Ytmcojfpomejnnaa
open Go Go.RowKit Go.Own
end Go.Proofs.Ytmcojfpomejnnaa
set_option linter.unusedSimpArgs false
set_option linter.unusedVariables false
namespace Go.Proofs.Ytmcojfpomejnnaa
open Go Go.RowKit Go.Own
def chunks (n : Nat) (img : List UInt8) : List (List UInt8) := (List.range n).map fun i => (img.drop (64 * i)).take 64
theorem chunks_len (n : Nat) (img : List UInt8) : (chunks n img).length = n := by simp [chunks]
def DM.load (d : DM) (img : List UInt8) : DM × Int := if img.length = 64 * d.secs.length then ({ d with secs := chunks d.secs.length img, pend := [] }, 0) else (d, 1)
theorem DM.Wf.load {d : DM} (h : d.Wf) (img : List UInt8) : (DM.load d img).1.Wf := by
  unfold DM.load
  split
  · rename_i hl
    refine ⟨fun x hx => ?_, fun p hp => by simp at hp, by simp [chunks_len]; exact h.lo, by simp [chunks_len]; exact h.hi, h.l0, h.l1⟩
    simp only [chunks, List.mem_map, List.mem_range] at hx
    obtain ⟨i, hi, rfl⟩ := hx
    simp; omega
  · exact h
end Go.Proofs.Ytmcojfpomejnnaa
set_option linter.unusedSimpArgs false
set_option linter.unusedVariables false
namespace Go.Proofs.Ytmcojfpomejnnaa
open Go Go.RowKit Go.Own
section
variable {s : Ro} {w : World} {R : List Asn} {b : Nat} {d : DM}
def ats (l : List (Nat × List UInt8)) : List Value := l.map fun p => .int .i64 (p.1 : Int)
end
end Go.Proofs.Ytmcojfpomejnnaa
