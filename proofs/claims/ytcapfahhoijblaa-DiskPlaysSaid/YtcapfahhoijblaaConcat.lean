/- slices.Concat of two halves of a page's image. Conditions: each contract's premises. -/
import Derived.Test.YtcapfahhoijblaaDiskD
import Derived.Lib.AppendZeros
import Derived.LoopN
set_option linter.unusedVariables false
set_option linter.unusedSimpArgs false
set_option maxRecDepth 100000
namespace Go.Proofs.Ytcapfahhoijblaa
open Go.RowKit

def GrowTo (w : World) (e : Ending) (w' : World) : Prop := ∃ g cap, e = .returned (.slice (some ⟨g, 0, none⟩) 0 cap) ∧ w'.ownsRow w.heap.size 5 1 (.slice (some ⟨g, 0, none⟩) 0 cap) 0 [] ∧ Below w.heap.size w w'
theorem grow24 (w : World) : Calls Try.prog 95 #[.slice none 0 0, .int .i64 24] w (GrowTo w) := by
  obtain ⟨i0, hi, hz0, hz1, hz2⟩ := info_parts Try.info5
  have hrun := Lib.run_append_nil_zeros (P := Try.prog) w 25 3 25 5 i0 (.int .u8 0) .i64 .i64 Try.underlying25 Try.underlying3 hi hz0 24 (by omega) (by omega) (by omega) (by omega)
  have hge := grownCap_ge w 24 0 5
  have hmx := grownCap_le_maxLen w 24 0 5 (by unfold maxLen; omega)
  generalize hcap : grownCap w 24 0 5 = cap at hrun hge hmx
  clear hcap
  have HR := Lib.hid hrun
  clear hrun
  go_enter Try.func95, Try.ntmps95
  go_wp2_with (at_builtin; refine Lib.wpList_append_run _ rfl _ _ _ _ rfl _ _ rfl rfl _ _ HR.out ?_)
  go_ret
  refine ⟨w.heap.size, cap, rfl, ⟨rfl, .inr ⟨w.heap.size, cap, _, rfl, Nat.le_refl _, heap_alloc_new w.drew _, Nat.zero_le _, hmx, ?_, by simp⟩⟩, ((Below.refl _ _).drew).alloc (Nat.le_refl _) _⟩
  simp [Builtin.zeroCells, Value.cells]; omega
set_option maxHeartbeats 1000000 in
theorem concat_any (b0 : Nat) (a1 a2 : Addr) (c1 c2 : Nat) (l1 l2 : List Int) (w : World) (h0 : w.cell? ⟨b0, 0, none⟩ = some (.slice (some a1) 12 c1)) (h1 : w.cell? ⟨b0, 1, none⟩ = some (.slice (some a2) 12 c2))
    (hl1 : l1.length = 12) (hl2 : l2.length = 12) (hc1 : ∀ j u, (nums l1)[j]? = some u → w.cell? (a1.add j) = some u) (hc2 : ∀ j u, (nums l2)[j]? = some u → w.cell? (a2.add j) = some u) :
    Calls Try.prog 64 #[.slice (some ⟨b0, 0, none⟩) 2 2] w (CloneTo 24 (nums (l1 ++ l2)) w) := by
  have HL1 := Lib.hid hl1
  have HL2 := Lib.hid hl2
  have HC1 := Lib.hid hc1
  have HC2 := Lib.hid hc2
  have hlt := World.block_lt_of_cell? w _ h0
  clear hl1 hl2 hc1 hc2
  go_enter Try.func64, Try.ntmps64
  go_wp2
  refine wp_loop_rounds 3 ?_
  rw [rounds_succ]; go_wp2
  rw [rounds_succ]; go_wp2
  rw [rounds_succ]
  go_wp2_with (go_at_call 95; refine (grow24 _).mono ?_; rintro e w1 ⟨g, cap, rfl, ho, hb⟩; have h01 := (hb.cell (p := ⟨b0, 0, none⟩) hlt).trans h0; have h11 := (hb.cell (p := ⟨b0, 1, none⟩) hlt).trans h1)
  refine wp_loop_rounds 3 ?_
  rw [rounds_succ]
  go_wp2_with (at_builtin; refine wpList_ap w.heap.size rfl _ _ 25 5 (.int .u8 0) 1 1 rfl Try.underlying25 Try.info5 rfl (by omega) _ 0 [] rfl ho _ 12 _ (nums l1) rfl ?q1 ?q2 (nums_one _) (by omega) (by omega) hb.size ?_)
  case q1 => rw [nums_length, HL1.out]
  case q2 =>
    refine fun _ => ⟨_, rfl, fun j u hj => ?_⟩
    exact cell_fr (HC1.out j u hj) (Fr.of_below hb (fun _ => False)) (fun h => h)
  intro v1 w2 ho1 hg1 hv1
  have hb2 : Below w.heap.size w w2 := hb.grown hg1 hb.size (own_ge ho)
  have h02 := (hb2.cell (p := ⟨b0, 0, none⟩) hlt).trans h0
  have h12 := (hb2.cell (p := ⟨b0, 1, none⟩) hlt).trans h1
  obtain ⟨g1, cp1, rfl, _⟩ := own_form ho1 (by omega)
  have HB2 := Lib.hid hb2
  have HO1 := Lib.hid ho1
  have hbs := hb2.size
  clear ho hb hg1 hv1 ho1 hb2
  go_wp2
  rw [rounds_succ]
  go_wp2_with (at_builtin; refine wpList_ap w.heap.size rfl _ _ 25 5 (.int .u8 0) 1 1 rfl Try.underlying25 Try.info5 rfl (by omega) _ 12 (nums l1) rfl HO1.out _ 12 _ (nums l2) rfl ?r1 ?r2 (nums_one _) (by omega) (by omega) hbs ?_)
  case r1 => rw [nums_length, HL2.out]
  case r2 =>
    refine fun _ => ⟨_, rfl, fun j u hj => ?_⟩
    exact cell_fr (HC2.out j u hj) (Fr.of_below HB2.out (fun _ => False)) (fun h => h)
  intro v2 w3 ho2 hg2 hv2
  have hb3 : Below w.heap.size w w3 := HB2.out.grown hg2 hbs (own_ge HO1.out)
  have h13 := (hb3.cell (p := ⟨b0, 1, none⟩) hlt).trans h1
  have HB3 := Lib.hid hb3
  have HO2 := Lib.hid ho2
  clear hb3 ho2 hg2 hv2
  go_wp2
  rw [rounds_succ]
  go_wp2
  go_ret
  exact ⟨v2, rfl, by simpa [nums] using HO2.out, HB3.out⟩
end Go.Proofs.Ytcapfahhoijblaa
