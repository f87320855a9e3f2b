/- The reference's device: access, Read, Write, Fail. Conditions: each contract's premises. -/
import Derived.Test.YtcapfahhoijblaaRDisk
import Derived.Test.YtcapfahhoijblaaDiskW
set_option linter.unusedVariables false
set_option linter.unusedSimpArgs false
set_option maxRecDepth 100000
namespace Go.Proofs.Ytcapfahhoijblaa
open Go.RowKit
section
variable {w w' : World} {F G : Nat → Prop} {sb : Nat} {d : Dk} {tl : List (List Int)} {wt : List Bool} {pb tb wb pc tc wc : Nat}
theorem RDIs.types (h : RDIs w F sb d tl wt pb tb wb pc tc wc) : pb ≠ sb ∧ tb ≠ sb ∧ wb ≠ sb ∧ pb ≠ wb ∧ tb ≠ wb :=
  ⟨own_row_type h.safe h.blk (by decide) pb rfl, own_row_type h.tail h.blk (by decide) tb rfl, own_row_type h.wait h.blk (by decide) wb rfl, fun e => own_types h.safe h.wait (by decide) pb rfl (by rw [e]; rfl), fun e => own_types h.tail h.wait (by decide) tb rfl (by rw [e]; rfl)⟩
theorem ownb {g n c : Nat} : ∀ b, (Value.slice (some ⟨g, 0, none⟩) n c).ownBlock = some b → g = b := fun b h => by simpa [Value.ownBlock] using h
theorem RDIs.fr (h : RDIs w F sb d tl wt pb tb wb pc tc wc) (hf : Fr G w w') (hG : ∀ b, b < w.heap.size → G b → ¬ F b) : RDIs w' F sb d tl wt pb tb wb pc tc wc :=
  ⟨h.blk.fr hf (fun hb => hG _ h.blk.lt hb h.fs), own_fr h.safe hf (fun b hb hg => by have := ownb b hb; subst this; exact hG _ (own_size h.safe _ rfl) hg h.fp), own_fr h.tail hf (fun b hb hg => by have := ownb b hb; subst this; exact hG _ (own_size h.tail _ rfl) hg h.ft),
    own_fr h.wait hf (fun b hb hg => by have := ownb b hb; subst this; exact hG _ (own_size h.wait _ rfl) hg h.fw), h.ne, h.fs, h.fp, h.ft, h.fw, h.some_, h.few, h.acc0, h.fail0, h.fail1, h.tls, h.wts, h.l24, h.t24⟩
theorem RDAt.fr (h : RDAt w F sb d) (hf : Fr G w w') (hG : ∀ b, b < w.heap.size → G b → ¬ F b) : RDAt w' F sb d := by
  obtain ⟨tl, wt, pb, tb, wb, pc, tc, wc, h⟩ := h
  exact ⟨tl, wt, pb, tb, wb, pc, tc, wc, h.fr hf hG⟩
theorem RDAt.mono (h : RDAt w F sb d) (hg : ∀ b, b < w.heap.size → F b → G b) : RDAt w G sb d := by
  obtain ⟨tl, wt, pb, tb, wb, pc, tc, wc, h⟩ := h
  exact ⟨tl, wt, pb, tb, wb, pc, tc, wc, h.blk, h.safe, h.tail, h.wait, h.ne, hg _ h.blk.lt h.fs, hg _ (own_size h.safe _ rfl) h.fp, hg _ (own_size h.tail _ rfl) h.ft, hg _ (own_size h.wait _ rfl) h.fw, h.some_, h.few, h.acc0, h.fail0, h.fail1, h.tls, h.wts, h.l24, h.t24⟩
theorem RDAt.bound (h : RDAt w F sb d) : RDAt w (fun b => F b ∧ b < w.heap.size) sb d := h.mono fun b hb hf => ⟨hf, hb⟩
theorem RDAt.own (h : RDAt w F sb d) : F sb ∧ sb < w.heap.size := by
  obtain ⟨tl, wt, pb, tb, wb, pc, tc, wc, h⟩ := h
  exact ⟨h.fs, h.blk.lt⟩
theorem RDIs.hit (h : RDIs w F sb d tl wt pb tb wb pc tc wc) (hb : Blk w' sb 73 #[.slice (some ⟨pb, 0, none⟩) d.pages.length pc, .slice (some ⟨tb, 0, none⟩) d.pages.length tc, .slice (some ⟨wb, 0, none⟩) d.pages.length wc, .int .i64 d.hit.acc, .int .i64 d.hit.fails, .bool d.down])
    (hf : Fr (fun b => b = sb) w w') : RDIs w' F sb d.hit tl wt pb tb wb pc tc wc := by
  obtain ⟨h1, h2, h3, _⟩ := h.types
  obtain ⟨a, b, c⟩ := d.hit_bd h.acc0 h.fail0 h.fail1
  have hg : ∀ i, d.hit.get i = d.get i := fun i => d.hit_get i
  refine ⟨by rw [Dk.hit_pages, Dk.hit_down]; exact hb, ?_, ?_, ?_, h.ne, h.fs, h.fp, h.ft, h.fw, by rw [Dk.hit_pages]; exact h.some_, by rw [Dk.hit_pages]; exact h.few, a, b, c, ?_, ?_, ?_, ?_⟩
  · rw [Dk.hit_pages]; exact own_fr h.safe hf (fun b hb e => h1 (by rw [ownb b hb]; exact e))
  · rw [Dk.hit_pages]; exact own_fr h.tail hf (fun b hb e => h2 (by rw [ownb b hb]; exact e))
  · rw [Dk.hit_pages]; exact own_fr h.wait hf (fun b hb e => h3 (by rw [ownb b hb]; exact e))
  · rw [Dk.hit_down, Dk.hit_pages]; intro hd; rw [h.tls hd]; exact List.map_congr_left (fun i _ => (hg i).symm)
  · rw [Dk.hit_waits, Dk.hit_pages]; exact h.wts
  · rw [Dk.hit_pages]; exact h.l24
  · rw [Dk.hit_waits, Dk.hit_pages]; exact h.t24
theorem Dk.get24 (h : RDIs w F sb d tl wt pb tb wb pc tc wc) {p : Nat} (hp : p < d.pages.length) : (d.get p).length = 24 := by
  unfold Dk.get
  cases hw : d.waits p with
  | some l => exact h.t24 p l hp hw
  | none =>
    simp only [Option.getD_none, List.getD, List.getElem?_eq_getElem hp, Option.getD_some]
    exact h.l24 _ (List.getElem_mem hp)
end
theorem ret_bool {a b : Bool} (h : a = b) : Ending.returned (.bool a) = .returned (.bool b) := by rw [h]
def RAccTo (sb : Nat) (c0 c1 c2 : Value) (d : Dk) (w : World) (e : Ending) (w' : World) : Prop :=
  e = .returned (.bool (decide (d.fails ≠ 1))) ∧ Blk w' sb 73 #[c0, c1, c2, .int .i64 d.hit.acc, .int .i64 d.hit.fails, .bool d.down] ∧ Fr (fun b => b = sb) w w'
theorem raccess_any (sb : Nat) (c0 c1 c2 : Value) (d : Dk) (w : World) (hb : Blk w sb 73 #[c0, c1, c2, .int .i64 d.acc, .int .i64 d.fails, .bool d.down]) (hd : d.down = false) (ha : 0 ≤ d.acc) (ha' : d.acc < 1000000000) (hf : 0 ≤ d.fails) (hf' : d.fails ≤ 1000000) :
    Calls Try.prog 63 #[.pointer (some ⟨sb, 0, none⟩)] w (RAccTo sb c0 c1 c2 d w) := by
  obtain ⟨pages, waits, acc, fails, down⟩ := d
  replace ha : 0 ≤ acc := ha
  replace ha' : acc < 1000000000 := ha'
  replace hf : 0 ≤ fails := hf
  replace hf' : fails ≤ 1000000 := hf'
  obtain rfl : down = false := hd
  have h3 : w.cell? ⟨sb, 3, none⟩ = some (.int .i64 acc) := hb.cell 3 _ rfl
  have h4 : w.cell? ⟨sb, 4, none⟩ = some (.int .i64 fails) := hb.cell 4 _ rfl
  have f3 := hb.free 3
  have f4 := hb.free 4
  have hb1 := hb.set 3 (.int .i64 (acc + 1))
  have fr1 : Fr (fun b => b = sb) w (w.setCell ⟨sb, 3, none⟩ (.int .i64 (acc + 1))) := (Fr.refl _ _).setCell _ _ (.inl rfl)
  have h41 : (w.setCell ⟨sb, 3, none⟩ (.int .i64 (acc + 1))).cell? ⟨sb, 4, none⟩ = some (.int .i64 fails) := hb1.cell 4 _ rfl
  have f41 := hb1.free 4
  by_cases h0 : 0 < fails
  · have hb2 := hb1.set 4 (.int .i64 (fails - 1))
    have fr2 : Fr (fun b => b = sb) w ((w.setCell ⟨sb, 3, none⟩ (.int .i64 (acc + 1))).setCell ⟨sb, 4, none⟩ (.int .i64 (fails - 1))) := fr1.setCell _ _ (.inl rfl)
    have h42 : ((w.setCell ⟨sb, 3, none⟩ (.int .i64 (acc + 1))).setCell ⟨sb, 4, none⟩ (.int .i64 (fails - 1))).cell? ⟨sb, 4, none⟩ = some (.int .i64 (fails - 1)) := hb2.cell 4 _ rfl
    have HB := Lib.hid hb2
    have HF := Lib.hid fr2
    clear hb hb1 hb2 fr1 fr2
    have hh : (Dk.hit ⟨pages, waits, acc, fails, false⟩).fails = fails - 1 := by simp [Dk.hit, h0]
    have HH := Lib.hid hh
    clear hh
    by_cases h1 : fails = 1
    · subst h1
      go_enter Try.func63, Try.ntmps63
      go_wp2
      go_ret
      exact ⟨rfl, by simpa [Dk.hit] using HB.out, HF.out⟩
    · have h2 : 1 < fails := by omega
      have hd : decide (0 < fails - 1) = true := by simp; omega
      have he : decide (fails ≠ 1) = true := by simp; omega
      have HE := Lib.hid he
      clear h1 he
      go_enter Try.func63, Try.ntmps63
      go_wp2
      go_ret
      refine ⟨?_, by rw [HH.out]; exact HB.out, HF.out⟩
      rw [show (decide ((Dk.mk pages waits acc fails false).fails ≠ 1)) = true from HE.out]
      first | rfl | exact ret_bool hd
  · have hz : fails = 0 := by omega
    subst hz
    have HB := Lib.hid hb1
    have HF := Lib.hid fr1
    clear hb hb1 fr1
    go_enter Try.func63, Try.ntmps63
    go_wp2
    go_ret
    exact ⟨rfl, by simpa [Dk.hit] using HB.out, HF.out⟩
end Go.Proofs.Ytcapfahhoijblaa
