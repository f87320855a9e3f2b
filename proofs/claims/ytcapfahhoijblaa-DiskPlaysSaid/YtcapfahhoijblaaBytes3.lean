/- bytes of the device's statements: an image of one byte. No condition. -/
import Derived.Test.YtcapfahhoijblaaTold3
set_option linter.unusedVariables false
set_option linter.unusedSimpArgs false
set_option maxRecDepth 100000
namespace Go.Proofs.Ytcapfahhoijblaa
open Go.RowKit
/-- A row of bytes that came in. -/
def BytesIn (w : World) (A : Option Addr) (n : Nat) (l : List Int) : Prop :=
  l.length = n ∧ (∀ i, i < n → ∃ bb bo, A = some ⟨bb, bo, none⟩ ∧ bb < w.heap.size ∧ w.cell? ⟨bb, bo + i, none⟩ = some (.int .u8 (l.getD i 0))) ∧ ∀ i, 0 ≤ l.getD i 0 ∧ l.getD i 0 ≤ 255
def part24 (c : Int) (k : Nat) : Array Value := (nums (List.replicate k c ++ List.replicate (24 - k) 0)).toArray
def rep24 (c : Int) : List Int := List.replicate 24 c
theorem part24_size (c : Int) (k : Nat) (hk : k ≤ 24) : (part24 c k).size = 24 := by simp [part24, nums]; omega
theorem part24_zero (c : Int) : part24 c 0 = zeros24 := by simp only [part24]; rfl
theorem part24_step (c : Int) (k : Nat) (hk : k < 24) : (part24 c k).setIfInBounds k (.int .u8 c) = part24 c (k + 1) := by
  apply Array.ext'
  simp only [part24, nums, Array.toList_setIfInBounds]
  apply List.ext_getElem?
  intro i
  rw [List.getElem?_set]
  simp only [List.getElem?_map, List.getElem?_append, List.length_replicate, List.getElem?_replicate, List.length_map, List.length_append]
  by_cases h1 : k = i
  · subst h1; simp; omega
  · by_cases h2 : i < k
    · simp [h1, h2, show i < k + 1 from by omega]
    · have h3 : ¬ i < k + 1 := by omega
      simp only [h1, h2, h3, if_false]
      by_cases h4 : i - k < 24 - k
      · rw [if_pos h4, if_pos (by omega)]
      · rw [if_neg h4, if_neg (by omega)]
theorem part24_full (c : Int) : (part24 c 24).toList = nums (rep24 c) := by simp [part24, rep24]
def BytesTo (c : Int) (w : World) (e : Ending) (w' : World) : Prop := e = .returned (.slice (some ⟨w.heap.size, 0, none⟩) 24 24) ∧ Blk w' w.heap.size 5 (part24 c 24) ∧ Below w.heap.size w w'
def BytesRel (c : Int) (w : World) (i : Value) (wr : World) : Prop := ∃ k : Nat, k ≤ 24 ∧ i = .int .i64 k ∧ Blk wr w.heap.size 5 (part24 c k) ∧ Below w.heap.size w wr
theorem bytes3_any (c : Int) (w : World) : Calls Try.prog 23 #[.int .u8 c] w (BytesTo c w) := by
  have hmk := mk24
  go_enter Try.func23, Try.ntmps23
  go_wp2
  go_loopw [4] (fun i wr => BytesRel c w i wr) (fun i _ => 24 - (intOf i).toNat)
  case atStart => exact ⟨0, by omega, rfl, by rw [part24_zero]; exact Blk.new w _ _, (Below.refl _ _).alloc (Nat.le_refl _) _⟩
  case round =>
    obtain ⟨k, hk, rfl, hb, hbel⟩ := hrel
    by_cases hlt : k < 24
    · have hck : ∃ v, wr.cell? ⟨w.heap.size, k, none⟩ = some v := ⟨(part24 c k)[k]'(by rw [part24_size c k hk]; exact hlt), hb.cell k _ (by simp [part24_size c k hk, hlt])⟩
      obtain ⟨v, hck⟩ := hck
      have hfk := hb.free k
      have hs := hb.set k (.int .u8 c)
      rw [part24_step c k hlt] at hs
      have HS := Lib.hid hs
      have HB := Lib.hid hbel
      clear hs hb hbel
      go_wp2
      exact ⟨⟨k + 1, by omega, by go_num, HS.out, HB.out.setCell (Nat.le_refl _) _⟩, by simp [intOf]; omega⟩
    · have hk24 : k = 24 := by omega
      subst hk24
      have HB := Lib.hid hb
      clear hb
      go_wp2
      go_ret
      exact ⟨rfl, HB.out, hbel⟩
end Go.Proofs.Ytcapfahhoijblaa
