/- texts of layer 3 and Ints of layer 4 at lists that are the same. Conditions: each contract's premises. -/
import Derived.Test.YtcapfahhoijblaaRDiskW
import Derived.Test.YtcapfahhoijblaaBytes3
set_option linter.unusedVariables false
set_option linter.unusedSimpArgs false
set_option maxRecDepth 100000
namespace Go.Proofs.Ytcapfahhoijblaa
open Go.RowKit
/-- A slice whose cells can be read, of elements of one cell, at the head of a block. -/
def Sh (w : World) (v : Value) (n : Nat) (xs : List Value) : Prop := ∃ A c, v = .slice A n c ∧ xs.length = n ∧ ∀ j u, xs[j]? = some u → ∃ g, A = some ⟨g, 0, none⟩ ∧ w.cell? ⟨g, j, none⟩ = some u
theorem Sh.own {w : World} {base : Nat} {e : TypeId} {n : Nat} {v : Value} {xs : List Value} (h : w.ownsRow base e 1 v n xs) : Sh w v n xs := by
  obtain ⟨A, c, rfl, hc⟩ := own_shape h
  exact ⟨A, c, rfl, by have := h.1; omega, hc⟩
theorem Sh.below {w w' : World} {n : Nat} {v : Value} {xs : List Value} (h : Sh w v n xs) (hb : Below w.heap.size w w') : Sh w' v n xs := by
  obtain ⟨A, c, rfl, hl, hc⟩ := h
  exact ⟨A, c, rfl, hl, fun j u hj => by
    obtain ⟨g, hg, hcell⟩ := hc j u hj
    exact ⟨g, hg, (hb.cell (p := ⟨g, j, none⟩) (World.block_lt_of_cell? w _ hcell)).trans hcell⟩⟩
theorem conv_nil (w : World) : (convert 25 9 (.slice none 0 0)).run Try.prog w = .ok (.string (strOfNums [])) w := by kernel_rfl
def TrueTo (w : World) (e : Ending) (w' : World) : Prop := e = .returned (.bool true) ∧ Below w.heap.size w w'
def IdxRel (n : Nat) (w : World) (i : Value) (wr : World) : Prop := ∃ k : Nat, k ≤ n ∧ i = .int .i64 k ∧ Below w.heap.size w wr
theorem ints_same (v1 v2 : Value) (l : List Int) (w : World) (h1 : Sh w v1 l.length (l.map (Value.int .i64))) (h2 : Sh w v2 l.length (l.map (Value.int .i64))) (hl : l.length ≤ 1000000) :
    Calls Try.prog 33 #[v1, v2] w (TrueTo w) := by
  obtain ⟨A1, k1, rfl, _, hc1⟩ := h1
  obtain ⟨A2, k2, rfl, _, hc2⟩ := h2
  have H1 := Lib.hid hc1
  have H2 := Lib.hid hc2
  clear hc1 hc2
  go_enter Try.func33, Try.ntmps33
  go_wp2_with fail
  go_loopw [5] (fun i wr => IdxRel l.length w i wr) (fun i _ => l.length - (intOf i).toNat)
  case atStart => exact ⟨0, Nat.zero_le _, rfl, Below.refl _ _⟩
  case round =>
    obtain ⟨k, hk, rfl, hb⟩ := hrel
    have HB := Lib.hid hb
    clear hb
    by_cases hlt : k < l.length
    · have hx : (l.map (Value.int .i64))[k]? = some (.int .i64 l[k]) := by simp [hlt]
      obtain ⟨g1, rfl, c1⟩ := H1.out k _ hx
      obtain ⟨g2, rfl, c2⟩ := H2.out k _ hx
      have c1 := (HB.out.cell (p := ⟨g1, k, none⟩) (World.block_lt_of_cell? w _ c1)).trans c1
      have c2 := (HB.out.cell (p := ⟨g2, k, none⟩) (World.block_lt_of_cell? w _ c2)).trans c2
      generalize l[k] = x at c1 c2
      have hk0 : (0 : Int) ≤ (k : Int) := by omega
      have hk1 : (k : Int) < (l.length : Int) := by omega
      clear hx
      go_wp2_with fail
      go_quiet (fail)
      go_wp2
      exact ⟨⟨k + 1, by omega, by go_num, ⟨HB.out.os, HB.out.tape, HB.out.output, HB.out.size, HB.out.block⟩⟩, by simp [intOf]; omega⟩
    · have hkn : k = l.length := by omega
      go_wp2
      go_ret
      exact ⟨rfl, HB.out⟩
/-- The string of an owned row of bytes, nil too. -/
theorem conv_own {w : World} {base n : Nat} {v : Value} {l : List Int} (h : w.ownsRow base 5 1 v n (nums l)) : (convert 25 9 v).run Try.prog w = .ok (.string (strOfNums l)) w := by
  have hl : l.length = n := by have := h.1; rw [nums_length] at this; omega
  rcases Nat.eq_zero_or_pos n with h0 | h0
  · subst h0
    obtain rfl : l = [] := List.eq_nil_of_length_eq_zero hl
    rcases h.2 with ⟨rfl, _⟩ | ⟨g, cap, cur, rfl, _⟩
    · exact conv_nil w
    · exact conv_at (c := cap) (l := []) rfl (fun i hi => by omega) rfl
  · obtain ⟨g, cap, rfl, _⟩ := own_form h h0
    refine conv_at hl (fun i hi => ?_) rfl
    simpa using (own_cell h).2.1 i _ (nums_get l i (by omega))
theorem texts_same (v1 v2 : Value) (ls : List (List Int)) (base : Nat) (w : World) (h1 : Rows w base v1 ls) (h2 : Sh w v2 ls.length (strs ls)) (hl : ls.length ≤ 1000000) :
    Calls Try.prog 31 #[v1, v2] w (TrueTo w) := by
  obtain ⟨vs, ho, hrow⟩ := h1
  obtain ⟨A1, k1, rfl, _, hc1⟩ := Sh.own ho
  obtain ⟨A2, k2, rfl, _, hc2⟩ := h2
  have H1 := Lib.hid hc1
  have H2 := Lib.hid hc2
  have HR := Lib.hid hrow
  clear hc1 hc2 ho hrow
  go_enter Try.func31, Try.ntmps31
  go_wp2_with fail
  go_loopw [5] (fun i wr => IdxRel ls.length w i wr) (fun i _ => ls.length - (intOf i).toNat)
  case atStart => exact ⟨0, Nat.zero_le _, rfl, Below.refl _ _⟩
  case round =>
    obtain ⟨k, hk, rfl, hb⟩ := hrel
    have HB := Lib.hid hb
    clear hb
    by_cases hlt : k < ls.length
    · obtain ⟨l, hl⟩ : ∃ l, ls[k]? = some l := ⟨ls[k], by simp [hlt]⟩
      obtain ⟨u, hu, hou⟩ := HR.out k l hl
      obtain ⟨g1, rfl, c1⟩ := H1.out k _ hu
      obtain ⟨g2, rfl, c2⟩ := H2.out k _ (strs_get hl)
      obtain ⟨st, hst⟩ : ∃ s, strOfNums l = s := ⟨_, rfl⟩
      obtain ⟨A3, k3, rfl, hc3⟩ := own_shape hou
      rw [hst] at c2
      have hcv : ∀ q, (convert 25 9 (.slice A3 l.length k3)).run Try.prog (wr.drewN q) = .ok (.string st) (wr.drewN q) := by
        intro q
        have hbq : Below w.heap.size w (wr.drewN q) := ⟨HB.out.os, HB.out.tape, HB.out.output, HB.out.size, HB.out.block⟩
        rw [← hst]
        exact conv_own (own_below hou hbq)
      have hcv0 := hcv 0
      have c1 := (HB.out.cell (p := ⟨g1, k, none⟩) (World.block_lt_of_cell? w _ c1)).trans c1
      have c2 := (HB.out.cell (p := ⟨g2, k, none⟩) (World.block_lt_of_cell? w _ c2)).trans c2
      have hk0 : (0 : Int) ≤ (k : Int) := by omega
      have hk1 : (k : Int) < (ls.length : Int) := by omega
      generalize l.length = m at hcv hcv0 c1
      clear hu hl hst hou hc3
      go_wp2_with fail
      go_quiet (fail)
      go_wp2
      exact ⟨⟨k + 1, by omega, by go_num, ⟨HB.out.os, HB.out.tape, HB.out.output, HB.out.size, HB.out.block⟩⟩, by simp [intOf]; omega⟩
    · have hkn : k = ls.length := by omega
      go_wp2
      go_ret
      exact ⟨rfl, HB.out⟩
end Go.Proofs.Ytcapfahhoijblaa
