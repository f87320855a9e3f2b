/- Arguments that are slices of structs, opened to cells. Conditions: each lemma's premises. -/
import Derived.Test.YtcapfahhoijblaaRead60
import Derived.WalkKit
import Derived.ProofKit
import Derived.OpenShut
import Derived.ShutString
import Derived.ChangeOld
import Derived.Below
import Derived.Deep.Slices
import Derived.Deep.Fields
import Derived.ChangeSame
set_option linter.unusedVariables false
set_option linter.unusedSimpArgs false
namespace Go.Proofs.Ytcapfahhoijblaa
open Go.ChangeShapes Go.WideShapes Go.Deep Go.RowKit
section
variable {H : Type} {enc : TypeId × Value → H} {P : Program} {w : World} {base : Nat} {spare : Nat → Bool} {held : Bool}
theorem open_slice_fields {t e : TypeId} {fs : Array Field} {fuel : Nat} {cs : List Value} {x : DataW H × List MemPlace} (ht : P.underlying t = some (.slice e)) (he : P.underlying e = some (.struct fs))
    (hone : oneCellFields P fs = true) (hC : P.cellsOf e = fs.size) (h : DataW.trod enc P w base spare held fuel t cs = some x) :
    (cs = [.slice none 0 0] ∧ x = (.nil, [])) ∨
    ∃ (a : Addr) (len cap m : Nat), cs = [.slice (some a) len cap] ∧ base ≤ a.block ∧ len ≤ cap ∧ cap ≤ maxLen ∧ m = (if spare a.block then cap else len) ∧
      ∀ i, i < m → ∃ (n : Nat), ∀ (j : Nat) (f : Field), fs[j]? = some f → ∃ (v : Value) (y : DataW H × List MemPlace), w.cell? (a.add (i * fs.size + j)) = some v ∧ DataW.trod enc P w base spare held n f.type [v] = some y := by
  rcases open_slice ht h with h0 | ⟨a, len, cap, m, n, D, Pl, hcs, hb, hl, hm, hmm, hx, hi⟩
  · exact .inl h0
  · refine .inr ⟨a, len, cap, m, hcs, hb, hl, hm, hmm, fun i him => ?_⟩
    obtain ⟨cs', hc, ht'⟩ := hi i him
    rw [hC] at hc
    obtain ⟨ys, n', hn', hy, hlen, hyl, hf⟩ := DataW.trod_struct he ht'
    obtain ⟨_, hcl, hat⟩ := World.cells?_some hc
    refine ⟨n', fun j f hj => ?_⟩
    obtain ⟨ho, hk⟩ := hone_of hone j f hj
    have hjl : j < fs.size := (Array.getElem?_eq_some_iff.1 hj).1
    have hcell := hat j hjl
    have hv : cs'[j]? = some (cs'[j]'(by omega)) := List.getElem?_eq_getElem (by omega)
    have h1 := hf j f hj
    rw [ho, hk] at h1
    have hone' : (cs'.drop j).take 1 = [cs'[j]'(by omega)] := by
      rw [List.drop_eq_getElem_cons (by omega)]
      rfl
    rw [hone'] at h1
    have hys : ys[j]? = some (ys[j]'(by omega)) := List.getElem?_eq_getElem (by omega)
    refine ⟨_, _, ?_, h1.trans hys⟩
    rw [← Go.Deep.add_add, hcell, hv]
/-- A slice of bytes in a cell. -/
theorem bytesIn_cell {t e : TypeId} {fuel : Nat} {v : Value} {x : DataW H × List MemPlace} (ht : P.underlying t = some (.slice e)) (he : P.underlying e = some (.int .u8)) (hc : P.cellsOf e = 1) (hs : spare = fun _ => true)
    (h : DataW.trod enc P w base spare held fuel t [v] = some x) : ∃ (B : Option Addr) (m cap : Nat) (l : List Int), v = .slice B m cap ∧ BytesIn w B m l ∧ m ≤ cap ∧ cap ≤ maxLen := by
  subst hs
  rcases open_ints ht he hc h with ⟨hcs, _⟩ | ⟨a, l, c, zs, hcs, _, hl, hm, hz, _, hcell, hwz⟩
  · simp only [List.cons.injEq, and_true] at hcs
    subst hcs
    exact ⟨none, 0, 0, [], rfl, ⟨rfl, fun i hi => by omega, fun i => by simp⟩, Nat.le_refl _, Nat.zero_le _⟩
  · simp only [List.cons.injEq, and_true] at hcs
    subst hcs
    have hz' : zs.length = c := by simpa using hz
    refine ⟨some a, l, c, zs.take l, rfl, ⟨by simp; omega, fun i hi => ?_, ?_⟩, hl, hm⟩
    · obtain ⟨bb, bo, rfl, hc'⟩ := ints_at hcell (by omega)
      have h2 := hc' i (by omega)
      have he' : (zs.take l).getD i 0 = zs.getD i 0 := by simp [List.getD, hi]
      rw [he']
      refine ⟨bb, bo, rfl, ?_, h2⟩
      rcases Nat.lt_or_ge bb w.heap.size with h | h
      · exact h
      · simp [World.cell?, Array.getElem?_eq_none h] at h2
    · intro i
      simp only [List.getD, List.getElem?_take]
      split
      · exact range_u8 hwz i
      · simp
end
theorem add_at (bb bo k : Nat) : (⟨bb, bo, none⟩ : Addr).add k = ⟨bb, bo + k, none⟩ := by unfold Addr.add; split <;> simp_all
theorem addr_plain {w : World} {a : Addr} {v : Value} (h : w.cell? a = some v) : ∃ bb bo, a = ⟨bb, bo, none⟩ := by
  obtain ⟨bb, bo, g⟩ := a
  cases g with
  | none => exact ⟨bb, bo, rfl⟩
  | some q =>
    exfalso
    simp only [World.cell?] at h
    split at h <;> simp at h
theorem ops_in {H : Type} {enc : TypeId × Value → H} {w : World} {base fuel : Nat} {held : Bool} {A : Option Addr} {len cap : Nat} {x : DataW H × List MemPlace}
    (h : DataW.trod enc Try.prog w base (fun _ => true) held fuel 53 [.slice A len cap] = some x) : ∃ l, OpsIn w A len l ∧ len ≤ maxLen := by
  rcases open_slice_fields Try.underlying53 Try.underlying59 (by kernel_rfl) (by kernel_rfl) h with ⟨hcs, _⟩ | ⟨a, len', cap', m, hcs, _, hl, hm, hmm, hf⟩
  · simp only [List.cons.injEq, and_true, Value.slice.injEq] at hcs
    obtain ⟨rfl, rfl, rfl⟩ := hcs
    exact ⟨[], ⟨rfl, fun i o h => by simp at h⟩, by unfold maxLen; omega⟩
  · simp only [List.cons.injEq, and_true, Value.slice.injEq] at hcs
    obtain ⟨rfl, rfl, rfl⟩ := hcs
    have hml : m = cap := by simpa using hmm
    subst hml
    have key : ∀ i, i < len → ∃ o : OpD, ∃ (bb bo : Nat) (B : Option Addr) (m cap : Nat), some a = some ⟨bb, bo, none⟩ ∧ bb < w.heap.size ∧ w.cell? ⟨bb, bo + i * 5, none⟩ = some (.int .i64 o.kind) ∧ w.cell? ⟨bb, bo + i * 5 + 1, none⟩ = some (.int .i64 o.p) ∧
        w.cell? ⟨bb, bo + i * 5 + 2, none⟩ = some (.int .i64 o.n) ∧ w.cell? ⟨bb, bo + i * 5 + 3, none⟩ = some (.int .u8 o.c) ∧ w.cell? ⟨bb, bo + i * 5 + 4, none⟩ = some (.slice B m cap) ∧ BytesIn w B m o.b ∧ m ≤ cap ∧ cap ≤ maxLen ∧
        (-9223372036854775808 ≤ o.kind ∧ o.kind ≤ 9223372036854775807) ∧ (-9223372036854775808 ≤ o.p ∧ o.p ≤ 9223372036854775807) ∧ (-9223372036854775808 ≤ o.n ∧ o.n ≤ 9223372036854775807) ∧ (0 ≤ o.c ∧ o.c ≤ 255) := by
      intro i hi
      obtain ⟨n, hj⟩ := hf i (by omega)
      obtain ⟨v0, y0, c0, t0⟩ := hj 0 _ rfl
      obtain ⟨v1, y1, c1, t1⟩ := hj 1 _ rfl
      obtain ⟨v2, y2, c2, t2⟩ := hj 2 _ rfl
      obtain ⟨v3, y3, c3, t3⟩ := hj 3 _ rfl
      obtain ⟨v4, y4, c4, t4⟩ := hj 4 _ rfl
      obtain ⟨k, e0, _, w0⟩ := DataW.trod_int Try.underlying3 t0
      obtain ⟨p, e1, _, w1⟩ := DataW.trod_int Try.underlying3 t1
      obtain ⟨nn, e2, _, w2⟩ := DataW.trod_int Try.underlying3 t2
      obtain ⟨cc, e3, _, w3⟩ := DataW.trod_int Try.underlying5 t3
      obtain ⟨B, m4, cap4, l4, rfl, b4, bm4, bc4⟩ := bytesIn_cell Try.underlying25 Try.underlying5 (by kernel_rfl) rfl t4
      simp only [List.cons.injEq, and_true] at e0 e1 e2 e3
      subst e0; subst e1; subst e2; subst e3
      obtain ⟨n', hj'⟩ := hf 0 (by omega)
      obtain ⟨_, _, ca, _⟩ := hj' 0 _ rfl
      simp only [Nat.zero_mul, Nat.add_zero] at ca
      obtain ⟨bb, bo, rfl⟩ := addr_plain (show w.cell? a = _ from by simpa [Addr.add] using ca)
      simp only [List.size_toArray, List.length_cons, List.length_nil] at c0 c1 c2 c3 c4
      simp only [add_at, Nat.add_zero] at c0 c1 c2 c3 c4
      refine ⟨⟨k, p, nn, cc, l4⟩, bb, bo, B, m4, cap4, rfl, World.block_lt_of_cell? w _ c0, c0, by rw [Nat.add_assoc]; exact c1, by rw [Nat.add_assoc]; exact c2, by rw [Nat.add_assoc]; exact c3, by rw [Nat.add_assoc]; exact c4, b4, bm4, bc4, bounds_i64 w0, bounds_i64 w1, bounds_i64 w2, bounds_u8 w3⟩
    have hch : ∃ f : Nat → OpD, ∀ i, i < len → ∃ (bb bo : Nat) (B : Option Addr) (m cap : Nat), some a = some ⟨bb, bo, none⟩ ∧ bb < w.heap.size ∧ w.cell? ⟨bb, bo + i * 5, none⟩ = some (.int .i64 (f i).kind) ∧ w.cell? ⟨bb, bo + i * 5 + 1, none⟩ = some (.int .i64 (f i).p) ∧
        w.cell? ⟨bb, bo + i * 5 + 2, none⟩ = some (.int .i64 (f i).n) ∧ w.cell? ⟨bb, bo + i * 5 + 3, none⟩ = some (.int .u8 (f i).c) ∧ w.cell? ⟨bb, bo + i * 5 + 4, none⟩ = some (.slice B m cap) ∧ BytesIn w B m (f i).b ∧ m ≤ cap ∧ cap ≤ maxLen ∧
        (-9223372036854775808 ≤ (f i).kind ∧ (f i).kind ≤ 9223372036854775807) ∧ (-9223372036854775808 ≤ (f i).p ∧ (f i).p ≤ 9223372036854775807) ∧ (-9223372036854775808 ≤ (f i).n ∧ (f i).n ≤ 9223372036854775807) ∧ (0 ≤ (f i).c ∧ (f i).c ≤ 255) := by
      refine ⟨fun i => if h : i < len then Classical.choose (key i h) else ⟨0, 0, 0, 0, []⟩, fun i hi => ?_⟩
      simp only [hi, dif_pos]
      exact Classical.choose_spec (key i hi)
    obtain ⟨f, hf'⟩ := hch
    refine ⟨(List.range len).map f, ⟨by simp, fun i o ho => ?_⟩, by omega⟩
    simp only [List.getElem?_map] at ho
    rcases Nat.lt_or_ge i len with hi | hi
    · rw [List.getElem?_range hi] at ho
      simp only [Option.map_some, Option.some.injEq] at ho
      subst ho
      exact hf' i hi
    · rw [List.getElem?_eq_none (by simpa using hi)] at ho
      cases ho
end Go.Proofs.Ytcapfahhoijblaa
