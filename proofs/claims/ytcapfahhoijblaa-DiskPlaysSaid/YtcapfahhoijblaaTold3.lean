/- told and bytes of the device's statements. No condition. -/
import Derived.Test.YtcapfahhoijblaaCrash
set_option linter.unusedVariables false
set_option linter.unusedSimpArgs false
set_option maxRecDepth 100000
namespace Go.Proofs.Ytcapfahhoijblaa
open Go.RowKit

theorem DiskAt.bound {w : World} {F : Nat → Prop} {sb : Nat} {d : Dk} (h : DiskAt w F sb d) : DiskAt w (fun b => F b ∧ b < w.heap.size) sb d := h.mono fun b hb hf => ⟨hf, hb⟩
theorem DiskAt.own {w : World} {F : Nat → Prop} {sb : Nat} {d : Dk} (h : DiskAt w F sb d) : F sb ∧ sb < w.heap.size := by
  obtain ⟨pb, cap, mb, xs, es, clock, h⟩ := h
  exact ⟨h.fs, h.blk.lt⟩
theorem blk_news {w : World} {b : Nat} {e : TypeId} {cs : Array Value} {l : List Int} (h : Blk w b e cs) (hl : cs.toList = nums l) : ∀ j u, (nums l)[j]? = some u → w.cell? ((⟨b, 0, none⟩ : Addr).add j) = some u := by
  intro j u hj
  have hadd : (⟨b, 0, none⟩ : Addr).add j = ⟨b, j, none⟩ := by unfold Addr.add; split <;> simp_all
  rw [hadd]
  exact h.cell j u (by rw [← hl] at hj; simpa using hj)
/-- A device in blocks from B on, all of them below a bound. -/
structure DAt (B : Nat) (w0 w : World) (F : Nat → Prop) (sb : Nat) (d : Dk) : Prop where
  at_ : DiskAt w F sb d
  lo : ∀ b, F b → B ≤ b
  hi : ∀ b, F b → b < w.heap.size
  bel : Below B w0 w
  lb : B ≤ w0.heap.size
theorem DAt.step {B : Nat} {w0 w w1 : World} {F F1 G : Nat → Prop} {sb : Nat} {d d1 : Dk} (h : DAt B w0 w F sb d) (h1 : DiskAt w1 F1 sb d1) (hf : Fr G w w1) (hG : ∀ b, b < w.heap.size → G b → F b) (hF : ∀ b, F1 b → F b ∨ w.heap.size ≤ b) :
    DAt B w0 w1 (fun b => F1 b ∧ b < w1.heap.size) sb d1 := by
  have hb0 := h.bel.size
  refine ⟨h1.bound, fun b hb => ?_, fun b hb => hb.2, h.bel.trans (hf.below (Nat.le_trans h.lb hb0) (fun b hb hg => ?_)), h.lb⟩
  · rcases hF b hb.1 with h' | h'
    · exact h.lo b h'
    · exact Nat.le_trans (Nat.le_trans h.lb hb0) h'
  · have := h.lo b (hG b (Nat.lt_of_lt_of_le hb (Nat.le_trans h.lb hb0)) hg)
    omega
theorem DAt.sb {B : Nat} {w0 w : World} {F : Nat → Prop} {sb : Nat} {d : Dk} (h : DAt B w0 w F sb d) : F sb := h.at_.own.1
/-- The same device, only blocks of others have turned. -/
theorem DAt.same {B : Nat} {w0 w w1 : World} {F G : Nat → Prop} {sb : Nat} {d : Dk} (h : DAt B w0 w F sb d) (hf : Fr G w w1) (hG : ∀ b, b < w.heap.size → G b → ¬ F b) (hB : Below B w0 w1) : DAt B w0 w1 F sb d :=
  ⟨h.at_.fr hf hG, h.lo, fun b hb => Nat.lt_of_lt_of_le (h.hi b hb) hf.size, hB, h.lb⟩
def ToldTo (w : World) (e : Ending) (w' : World) : Prop := e = .returned (.bool true) ∧ Below w.heap.size w w'
def seven : List Int := 7 :: List.replicate 23 0
def td1 : Dk := (fresh 2).hit
def td2 : Dk := td1.hit.put 1 seven
def td3 : Dk := td2.fail 1
def td5 : Dk := td3.hit.hit.sync
def td6 : Dk := td5.crash []
set_option maxHeartbeats 4000000 in
theorem told3_any (w : World) : Calls Try.prog 19 #[] w (ToldTo w) := by
  have hmk := mk24
  go_enter Try.func19, Try.ntmps19
  go_wp2_with fail
  refine (new_any 2 w (by omega) (by omega)).mono ?_
  rintro e w1 ⟨sb, rfl, hd, hsb, hb1⟩
  have hd1 : DAt w.heap.size w w1 (fun b => w.heap.size ≤ b ∧ b < w1.heap.size) sb (fresh 2) := ⟨hd.bound, fun b hb => hb.1, fun b hb => hb.2, hb1, Nat.le_refl _⟩
  have hz := Blk.new w1 5 (zeros24.setIfInBounds 0 (.int .u8 7))
  have hlt1 := hd.own.2
  have hd2 : DAt w.heap.size w (w1.alloc (.cells (zeros24.setIfInBounds 0 (.int .u8 7)) 5)) (fun b => w.heap.size ≤ b ∧ b < w1.heap.size) sb (fresh 2) := hd1.same ((Fr.refl (fun _ => False) _).alloc _) (fun _ _ h => h.elim) (hb1.alloc hb1.size _)
  generalize hW : w1.alloc (.cells (zeros24.setIfInBounds 0 (.int .u8 7)) 5) = W2 at hd2 hz
  have HW := Lib.hid hW
  have HD2 := Lib.hid hd2
  have HZ := Lib.hid hz
  clear hd hd1 hz hb1 hd2 hW
  go_wp2_with fail
  rw [HW.out]
  refine (read_ok sb (fresh 2) 0 _ W2 HD2.out.at_ (by decide) (by decide) rfl).mono ?_
  rintro e w3 ⟨v3, rfl, ho3, hd3, hf3⟩
  obtain ⟨g3, c3, rfl, _⟩ := own_form ho3 (by omega)
  have h3 := HD2.out.step hd3 hf3 (fun b hb e => by subst e; exact HD2.out.sb) (fun b h => .inl h)
  have hbz3 := HZ.out.fr hf3 (fun e => by omega)
  have H3 := Lib.hid h3
  have HZ3 := Lib.hid hbz3
  clear h3 hbz3 hd3 hf3 ho3
  go_wp2_with fail
  refine (write_ok sb td1 1 ⟨w1.heap.size, 0, none⟩ 24 seven _ w3 H3.out.at_ (by decide) (by decide) rfl rfl (blk_news HZ3.out rfl) (fun e => by have : w1.heap.size = sb := e; omega)).mono ?_
  rintro e w4 ⟨rfl, hd4, hf4⟩
  have H4 := Lib.hid (H3.out.step hd4 hf4 (fun _ _ h => h) (fun b h => h))
  clear hd4 hf4
  go_wp2_with fail
  refine (waits_any sb td2 _ w4 H4.out.at_).mono ?_
  rintro e w5 ⟨v5, rfl, ho5, hd5, hb5⟩
  rw [show td2.waiting.length = 1 from rfl, show td2.waitsZ = [1] from rfl] at ho5
  obtain ⟨g5, c5, rfl, _, _, _, hc5⟩ := own_form ho5 (by omega)
  have hg5 : w4.heap.size ≤ g5 := own_ge ho5 g5 rfl
  have k5 := hc5 0 _ rfl
  have h5 := H4.out.step hd5 (Fr.of_below hb5 (fun _ => False)) (fun _ _ h => h.elim) (fun b h => .inl h)
  have hsb5 : sb < w4.heap.size := H4.out.at_.own.2
  have H5 := Lib.hid h5
  have HN5 := Lib.hid (fun b (hb : _) => H4.out.hi b (And.left hb) : ∀ b, _ ∧ b < w5.heap.size → b < w4.heap.size)
  clear hd5 hb5 ho5 hc5 h5
  go_wp2_with fail
  refine (fail_any sb td2 1 _ w5 H5.out.at_).mono ?_
  rintro e w6 ⟨rfl, hd6, hf6⟩
  have k6 := cell_fr k5 hf6 (fun e => by have : g5 = sb := e; omega)
  have H6 := Lib.hid (H5.out.step hd6 hf6 (fun b hb e => by subst e; exact H5.out.sb) (fun b h => .inl h))
  clear hd6 hf6
  go_wp2_with fail
  refine (sync_no sb td3 _ w6 H6.out.at_ (by decide) (by decide)).mono ?_
  rintro e w7 ⟨rfl, hd7, hf7⟩
  have k7 := cell_fr k6 hf7 (fun e => by have : g5 = sb := e; omega)
  have H7 := Lib.hid (H6.out.step hd7 hf7 (fun b hb e => by subst e; exact H6.out.sb) (fun b h => .inl h))
  clear hd7 hf7 k6
  go_wp2_with fail
  refine (sync_ok sb td3.hit _ w7 H7.out.at_ (by decide) rfl).mono ?_
  rintro e w8 ⟨rfl, hd8, hf8⟩
  have k8 := cell_fr k7 hf8 (fun hF => by have : g5 < w4.heap.size := HN5.out _ hF.1.1; omega)
  have H8 := Lib.hid (H7.out.step hd8 hf8 (fun _ _ h => h) (fun b h => .inl h))
  clear hd8 hf8 k7
  go_wp2_with fail
  refine (crash_any sb td5 [] none 0 0 _ w8 H8.out.at_ rfl rfl (by omega) (fun i h => by omega) (fun i => by simp)).mono ?_
  rintro e w9 ⟨rfl, hd9, hf9⟩
  have k9 := cell_fr k8 hf9 (fun hF => by have : g5 < w4.heap.size := HN5.out _ hF.1.1.1; omega)
  have H9 := Lib.hid (H8.out.step hd9 hf9 (fun _ _ h => h) (fun b h => h))
  clear hd9 hf9 k8
  go_wp2_with fail
  refine (sync_no sb td6 _ w9 H9.out.at_ (by decide) (by decide)).mono ?_
  rintro e w10 ⟨rfl, hd10, hf10⟩
  have k10 := cell_fr k9 hf10 (fun e => by have : g5 = sb := e; omega)
  have H10 := Lib.hid (H9.out.step hd10 hf10 (fun b hb e => by subst e; exact H9.out.sb) (fun b h => .inl h))
  clear hd10 hf10 k9
  go_wp2_with fail
  refine (durable_any sb td6.hit _ w10 H10.out.at_).mono ?_
  rintro e w11 ⟨v11, rfl, hr11, hd11, hb11⟩
  have k11 := cell_fr k10 (Fr.of_below hb11 (fun _ => False)) (fun h => h)
  have H11 := Lib.hid (H10.out.step hd11 (Fr.of_below hb11 (fun _ => False)) (fun _ _ h => h.elim) (fun b h => .inl h))
  obtain ⟨vs, ho11, hrow⟩ := hr11
  obtain ⟨u1, hu1, hou⟩ := hrow 1 seven rfl
  obtain ⟨g11, c11, rfl, _, _, _, hc11⟩ := own_form ho11 (by decide)
  obtain ⟨gu, cu, rfl, _, _, _, hcu⟩ := own_form hou (by decide)
  have k11a := hc11 1 _ hu1
  have k11b := hcu 0 _ rfl
  clear hd11 hb11 k10 ho11 hrow hou hc11 hcu hu1
  go_wp2_with (first | (go_at_call 29; refine (crash_down sb td6.hit _ _ w11 H11.out.at_ rfl).mono ?_; rintro e w12 ⟨rfl, rfl⟩) | (go_at_call 36; refine (accesses_any sb td6.hit _ w11 H11.out.at_).mono ?_; rintro e w12 ⟨rfl, rfl⟩) | (go_at_call 17; refine (new_none 0 w11 (by omega)).mono ?_; rintro e w12 ⟨rfl, rfl⟩) | (go_at_call 25; refine (sync_nil w11).mono ?_; rintro e w12 ⟨rfl, rfl⟩) | (go_at_call 27; refine (fail_nil 1 w11).mono ?_; rintro e w12 ⟨rfl, rfl⟩))
  go_ret
  exact ⟨rfl, H11.out.bel⟩
end Go.Proofs.Ytcapfahhoijblaa
