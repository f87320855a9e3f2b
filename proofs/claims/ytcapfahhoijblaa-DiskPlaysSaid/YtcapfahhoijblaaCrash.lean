/- Crash of package disk's device. Conditions: each contract's premises. -/
import Derived.Test.YtcapfahhoijblaaWaits
import Derived.Deep.RegionLaw
set_option linter.unusedVariables false
set_option linter.unusedSimpArgs false
set_option maxRecDepth 100000
namespace Go.Proofs.Ytcapfahhoijblaa
open Go.RowKit

/-- What becomes of the k-th page that waits. -/
def what (bits : List Int) (k : Nat) : Int := if k / 4 < bits.length then (bits.getD (k / 4) 0 / 4 ^ (k % 4)) % 4 else 0
def tear (c : Int) (a b : List Int) : List Int := if c = 1 then b else if c = 2 then b.take 12 ++ a.drop 12 else if c = 3 then a.take 12 ++ b.drop 12 else a
def Dk.crashAt (d : Dk) (bits : List Int) : Nat → List (List Int)
  | 0 => d.pages
  | j + 1 => match d.waiting[j]? with
    | some p => (d.crashAt bits j).set p (tear (what bits j) ((d.crashAt bits j).getD p []) ((d.waits p).getD []))
    | none => d.crashAt bits j
def Dk.crash (d : Dk) (bits : List Int) : Dk := if d.down then d else { d with down := true, pages := d.crashAt bits d.waiting.length, waits := fun _ => none }
theorem Dk.crashAt_length (d : Dk) (bits : List Int) (j : Nat) : (d.crashAt bits j).length = d.pages.length := by
  induction j with
  | zero => rfl
  | succ j ih => simp only [Dk.crashAt]; split <;> simp [ih]
def CrashTo (sb : Nat) (d : Dk) (bits : List Int) (F : Nat → Prop) (w : World) (e : Ending) (w' : World) : Prop :=
  e = .returned (.bool (!d.down)) ∧ DiskAt w' (fun b => F b ∨ w.heap.size ≤ b) sb (d.crash bits) ∧ Fr F w w'
/-- The state of the loop: j pages are over. -/
def CrashRel (sb : Nat) (d : Dk) (bits : List Int) (F : Nat → Prop) (pb cap mb : Nat) (es : Array MapEntry) (clock : Nat) (w w1 : World) (k i : Value) (wr : World) : Prop :=
  ∃ (j : Nat) (xs : List Value), j ≤ d.waiting.length ∧ k = .int .i64 j ∧ i = .int .i64 j ∧ DiskIs wr (fun b => F b ∨ w.heap.size ≤ b) sb { d with down := true, pages := d.crashAt bits j } pb cap mb xs es clock ∧ Fr (fun b => b = pb) w1 wr
theorem DiskIs.setPage {w : World} {F : Nat → Prop} {sb : Nat} {d : Dk} {pb cap mb : Nat} {xs : List Value} {es : Array MapEntry} {clock : Nat} (h : DiskIs w F sb d pb cap mb xs es clock) {p : Nat} (hp : p < d.pages.length) {v : Value} {l : List Int} (hv : Img w F v l) :
    DiskIs (w.setCell ⟨pb, p, none⟩ v) F sb { d with pages := d.pages.set p l } pb cap mb (xs.set p v) es clock := by
  have hf : Fr (fun b => b = pb) w (w.setCell ⟨pb, p, none⟩ v) := (Fr.refl _ _).setCell _ _ (.inl rfl)
  have hI : ∀ v l, Img w F v l → Img (w.setCell ⟨pb, p, none⟩ v) F v l → True := fun _ _ _ _ => trivial
  have hI : ∀ u l, Img w F u l → Img (w.setCell ⟨pb, p, none⟩ v) F u l := fun u l hi => hi.fr hf (fun b hb e => hi.own_ne h.own (by decide) b hb (by rw [e]; rfl))
  have hpm : pb ≠ mb := own_row_map h.own h.map.heap pb rfl
  have hps : pb ≠ sb := own_row_type h.own h.blk (by decide) pb rfl
  have hlen : (d.pages.set p l).length = d.pages.length := by simp
  have hxl : xs.length = d.pages.length := by have := h.own.1; omega
  refine { blk := by rw [hlen]; exact h.blk.other _ _ (Ne.symm hps), own := by rw [hlen]; exact (h.own.stored p v).1, img := ?_, map := by rw [hlen]; exact h.map.move hf (Ne.symm hpm) (fun u l hi b hb e => hi.own_ne h.own (by decide) b hb (by rw [e]; rfl)), fs := h.fs, fp := h.fp, fm := h.fm, some_ := by rw [hlen]; exact h.some_, few := by rw [hlen]; exact h.few, acc0 := h.acc0, fail0 := h.fail0, fail1 := h.fail1 }
  intro i l' hi
  by_cases e : p = i
  · subst e
    rw [List.getElem?_set_self hp] at hi
    obtain rfl := Option.some.inj hi
    exact ⟨v, by rw [List.getElem?_set_self (by omega)], hI _ _ hv⟩
  · rw [List.getElem?_set_ne e] at hi
    obtain ⟨u, hu, hu2⟩ := h.img i l' hi
    exact ⟨u, by rw [List.getElem?_set_ne e]; exact hu, hI _ _ hu2⟩
theorem and3 : ∀ x : Nat, x < 256 → Go.bits .and .u8 (x : Int) 3 = (x : Int) % 4 := by decide +kernel
theorem shr_byte (bx : Int) (h0 : 0 ≤ bx) (h1 : bx ≤ 255) (k : Nat) : wrap64 (Go.bits BinOp.and IntKind.u8 (bx / 2 ^ (2 * k)) 3) = (bx / 4 ^ k) % 4 := by
  have he : (2 : Int) ^ (2 * k) = 4 ^ k := by rw [Int.pow_mul]; rfl
  rw [he]
  have hpos : (0 : Int) < 4 ^ k := Int.pow_pos (by omega)
  have h2 : 0 ≤ bx / 4 ^ k := Int.ediv_nonneg h0 (by omega)
  have h3 : bx / 4 ^ k ≤ bx := Int.ediv_le_self _ h0
  generalize bx / 4 ^ k = y at h2 h3
  obtain ⟨m, rfl⟩ := Int.eq_ofNat_of_zero_le h2
  rw [and3 m (by omega)]
  unfold wrap64; omega
/-- Two halves, in a world that has laid the two slices. -/
theorem halves {wr : World} {F : Nat → Prop} {g1 g2 c1 c2 o1 o2 k1 k2 : Nat} {l1 l2 : List Int} (h1 : Img wr F (.slice (some ⟨g1, 0, none⟩) 24 c1) l1) (h2 : Img wr F (.slice (some ⟨g2, 0, none⟩) 24 c2) l2) (ho1 : o1 ≤ 12) (ho2 : o2 ≤ 12) :
    Calls Try.prog 64 #[.slice (some ⟨wr.heap.size, 0, none⟩) 2 2] (wr.alloc (.cells #[.slice (some ⟨g1, o1, none⟩) 12 k1, .slice (some ⟨g2, o2, none⟩) 12 k2] 25)).drew
      (CloneTo 24 (nums ((l1.drop o1).take 12 ++ (l2.drop o2).take 12)) (wr.alloc (.cells #[.slice (some ⟨g1, o1, none⟩) 12 k1, .slice (some ⟨g2, o2, none⟩) 12 k2] 25)).drew) := by
  have key : ∀ (g c : Nat) (l : List Int) (o : Nat), o ≤ 12 → Img wr F (.slice (some ⟨g, 0, none⟩) 24 c) l → ((l.drop o).take 12).length = 12 ∧ ∀ j u, (nums ((l.drop o).take 12))[j]? = some u → (wr.alloc (.cells #[.slice (some ⟨g1, o1, none⟩) 12 k1, .slice (some ⟨g2, o2, none⟩) 12 k2] 25)).drew.cell? ((⟨g, o, none⟩ : Addr).add j) = some u := by
    intro g c l o ho hi
    refine ⟨by simp [hi.2.1]; omega, fun j u hj => ?_⟩
    have hadd : (⟨g, o, none⟩ : Addr).add j = ⟨g, o + j, none⟩ := by unfold Addr.add; split <;> simp_all
    rw [hadd]
    refine cell_alloc ((own_cell hi.1).2.1 (o + j) u ?_) _
    simp only [nums, List.map_take, List.map_drop] at hj ⊢
    rw [List.getElem?_take] at hj
    split at hj
    · rwa [List.getElem?_drop] at hj
    · cases hj
  obtain ⟨a1, b1⟩ := key g1 c1 l1 o1 ho1 h1
  obtain ⟨a2, b2⟩ := key g2 c2 l2 o2 ho2 h2
  exact concat_any _ _ _ _ _ _ _ _ (World.cell?_alloc_new _ _ _ _) (World.cell?_alloc_new _ _ _ _) a1 a2 b1 b2
theorem half_len {w : World} {F : Nat → Prop} {v1 v2 : Value} {l1 l2 : List Int} (h1 : Img w F v1 l1) (h2 : Img w F v2 l2) : ((l1.drop 0).take 12 ++ (l2.drop 12).take 12).length = 24 := by
  simp [h1.2.1, h2.2.1]
theorem half_eq {w : World} {F : Nat → Prop} {v : Value} {l la : List Int} (h : Img w F v la) : (l.drop 0).take 12 ++ (la.drop 12).take 12 = tear 2 la l := by
  show l.take 12 ++ (la.drop 12).take 12 = l.take 12 ++ la.drop 12
  rw [List.take_of_length_le (l := la.drop 12) (by simp [h.2.1])]
theorem half_eq3 {w : World} {F : Nat → Prop} {v : Value} {l la : List Int} (h : Img w F v l) : (la.drop 0).take 12 ++ (l.drop 12).take 12 = tear 3 la l := by
  show la.take 12 ++ (l.drop 12).take 12 = la.take 12 ++ l.drop 12
  rw [List.take_of_length_le (l := l.drop 12) (by simp [h.2.1])]
theorem tear_0 (a b : List Int) : tear 0 a b = a := rfl
theorem crashAt_succ {d : Dk} {bits : List Int} {j p : Nat} {l : List Int} (hp : d.waiting[j]? = some p) (hl : d.waits p = some l) : d.crashAt bits (j + 1) = (d.crashAt bits j).set p (tear (what bits j) ((d.crashAt bits j).getD p []) l) := by
  simp [Dk.crashAt, hp, hl]
theorem DiskIs.cleared {w w2 : World} {F : Nat → Prop} {sb : Nat} {d : Dk} {pb cap mb : Nat} {xs : List Value} {es : Array MapEntry} {clock : Nat} (h : DiskIs w F sb d pb cap mb xs es clock) (hm : w2.heap[mb]? = some (.map #[] clock)) (hf : Fr (fun b => b = mb) w w2) :
    DiskIs w2 F sb { d with waits := fun _ => none } pb cap mb xs #[] clock := by
  refine { blk := h.blk.fr hf (blk_map_ne h.blk h.map.heap), own := own_fr h.own hf (own_row_map h.own h.map.heap), img := fun i l hi => ?_, map := ⟨hm, by simp, by simp, by simp, by simp, by simp⟩, fs := h.fs, fp := h.fp, fm := h.fm, some_ := h.some_, few := h.few, acc0 := h.acc0, fail0 := h.fail0, fail1 := h.fail1 }
  obtain ⟨v, hv, hv2⟩ := h.img i l hi
  exact ⟨v, hv, hv2.fr hf (own_row_map hv2.1 h.map.heap)⟩
theorem crash_end {sb : Nat} {d : Dk} {bits : List Int} {F : Nat → Prop} {pb cap mb : Nat} {xs : List Value} {es : Array MapEntry} {clock : Nat} {w w1 wr w2 : World} {xs' : List Value} (hd : d.down = false) (h0 : DiskIs w F sb d pb cap mb xs es clock)
    (hdr : DiskIs wr (fun b => F b ∨ w.heap.size ≤ b) sb { d with down := true, pages := d.crashAt bits d.waiting.length } pb cap mb xs' es clock) (hb1 : Below (w.setCell ⟨sb, 4, none⟩ (.bool true)).heap.size (w.setCell ⟨sb, 4, none⟩ (.bool true)) w1) (hfr : Fr (fun b => b = pb) w1 wr)
    (hm : w2.heap[mb]? = some (.map #[] clock)) (hf : Fr (fun b => b = mb) wr w2) : CrashTo sb d bits F w (.returned (.bool true)) w2 := by
  refine ⟨by rw [hd]; rfl, ?_, ?_⟩
  · have hc : d.crash bits = { d with down := true, pages := d.crashAt bits d.waiting.length, waits := fun _ => none } := by unfold Dk.crash; rw [hd]; rfl
    rw [hc]
    exact ⟨pb, cap, mb, xs', #[], clock, hdr.cleared hm hf⟩
  · have f1 : Fr F w (w.setCell ⟨sb, 4, none⟩ (.bool true)) := (Fr.refl F w).setCell _ _ (.inl h0.fs)
    have f2 := f1.and_below hb1
    have f3 := f2.trans hfr (fun b _ hb => by subst hb; exact h0.fp)
    exact f3.trans hf (fun b _ hb => by subst hb; exact h0.fm)
theorem crash_round {sb : Nat} {d : Dk} {bits : List Int} {F : Nat → Prop} {pb cap mb : Nat} {es : Array MapEntry} {clock : Nat} {w w1 wr w2 : World} {j p : Nat} {l l2 : List Int} {xs' : List Value} {v2 : Value}
    (hdr : DiskIs wr (fun b => F b ∨ w.heap.size ≤ b) sb { d with down := true, pages := d.crashAt bits j } pb cap mb xs' es clock) (hfr : Fr (fun b => b = pb) w1 wr) (hj : j < d.waiting.length) (hp : d.waiting[j] = p) (hl : d.waits p = some l)
    (hb2 : Below wr.heap.size wr w2) (hi2 : Img w2 (fun b => F b ∨ w.heap.size ≤ b) v2 l2) (hl2 : l2 = tear (what bits j) ((d.crashAt bits j).getD p []) l) :
    CrashRel sb d bits F pb cap mb es clock w w1 (.int .i64 ((j : Int) + 1)) (.int .i64 ((j : Int) + 1)) (w2.setCell ⟨pb, p, none⟩ v2) := by
  have hpl : p < d.pages.length := by rw [← hp]; exact (mem_waiting.1 (List.getElem_mem hj)).1
  have h2 := (hdr.fr (Fr.of_below hb2 (fun _ => False)) (fun _ _ h => h.elim)).setPage (p := p) (by show p < (d.crashAt bits j).length; rw [Dk.crashAt_length]; exact hpl) hi2
  refine ⟨j + 1, xs'.set p v2, hj, by go_num, by go_num, ?_, (hfr.and_below hb2).setCell _ _ (.inl rfl)⟩
  rw [crashAt_succ (p := p) (l := l) (by rw [← hp]; simp [hj]) hl, ← hl2]
  exact h2
theorem crash_round0 {sb : Nat} {d : Dk} {bits : List Int} {F : Nat → Prop} {pb cap mb : Nat} {es : Array MapEntry} {clock : Nat} {w w1 wr : World} {j p : Nat} {l : List Int} {xs' : List Value}
    (hdr : DiskIs wr (fun b => F b ∨ w.heap.size ≤ b) sb { d with down := true, pages := d.crashAt bits j } pb cap mb xs' es clock) (hfr : Fr (fun b => b = pb) w1 wr) (hj : j < d.waiting.length) (hp : d.waiting[j] = p) (hl : d.waits p = some l) (h0 : what bits j = 0) :
    CrashRel sb d bits F pb cap mb es clock w w1 (.int .i64 ((j : Int) + 1)) (.int .i64 ((j : Int) + 1)) wr := by
  have hpl : p < d.pages.length := by rw [← hp]; exact (mem_waiting.1 (List.getElem_mem hj)).1
  refine ⟨j + 1, xs', hj, by go_num, by go_num, ?_, hfr⟩
  rw [crashAt_succ (p := p) (l := l) (by rw [← hp]; simp [hj]) hl, h0, tear_0]
  have : (d.crashAt bits j).set p ((d.crashAt bits j).getD p []) = d.crashAt bits j := by
    apply List.ext_getElem?
    intro i
    by_cases e : p = i
    · subst e; rw [List.getElem?_set_self (by rw [Dk.crashAt_length]; exact hpl)]; simp [List.getD, Dk.crashAt_length, hpl]
    · rw [List.getElem?_set_ne e]
  rw [this]; exact hdr
theorem crash_nil (v : Value) (w : World) : Calls Try.prog 29 #[.pointer none, v] w fun e w' => e = .returned (.bool false) ∧ w = w' := by
  go_enter Try.func29, Try.ntmps29
  go_wp2; go_step3
  go_wp2
  try rw [Exit.noGoto_ret]
  go_ret
  exact ⟨rfl, rfl⟩
theorem crash_down (sb : Nat) (d : Dk) (v : Value) (F : Nat → Prop) (w : World) (h : DiskAt w F sb d) (hd : d.down = true) : Calls Try.prog 29 #[.pointer (some ⟨sb, 0, none⟩), v] w fun e w' => e = .returned (.bool false) ∧ w = w' := by
  obtain ⟨pb, cap, mb, xs, es, clock, h⟩ := h
  have c4 : w.cell? ⟨sb, 4, none⟩ = some (.bool true) := by rw [← hd]; exact h.blk.cell 4 _ rfl
  clear h hd
  go_enter Try.func29, Try.ntmps29
  go_wp2; go_step3
  go_wp2
  all_goals (try rw [Exit.noGoto_ret])
  all_goals (go_ret; exact ⟨rfl, rfl⟩)
set_option maxHeartbeats 1000000 in
theorem crash_any (sb : Nat) (d : Dk) (bits : List Int) (A : Option Addr) (n c : Nat) (F : Nat → Prop) (w : World) (h : DiskAt w F sb d) (hd : d.down = false) (hn : bits.length = n) (hn2 : n ≤ 1000000)
    (hbits : ∀ i, i < n → ∃ bb bo, A = some ⟨bb, bo, none⟩ ∧ w.cell? ⟨bb, bo + i, none⟩ = some (.int .u8 (bits.getD i 0)) ∧ ¬ F bb)
    (hbyte : ∀ i, 0 ≤ bits.getD i 0 ∧ bits.getD i 0 ≤ 255) :
    Calls Try.prog 29 #[.pointer (some ⟨sb, 0, none⟩), .slice A n c] w (CrashTo sb d bits F w) := by
  obtain ⟨pb, cap, mb, xs, es, clock, h⟩ := h
  have c4 : w.cell? ⟨sb, 4, none⟩ = some (.bool false) := by rw [← hd]; exact h.blk.cell 4 _ rfl
  have f4 := h.blk.free 4
  have hs := h.move ((Fr.refl _ w).at_ 4 (.bool true)) (fun _ _ h => .inl h) (h.blk.set 4 (.bool true)) h.acc0 h.fail0 h.fail1
  have hw : Calls Try.prog 34 #[.pointer (some ⟨sb, 0, none⟩)] (w.setCell ⟨sb, 4, none⟩ (.bool true)) fun e w' => ∃ v, e = .returned v ∧ w'.ownsRow (w.setCell ⟨sb, 4, none⟩ (.bool true)).heap.size 3 1 v d.waiting.length (d.waitsZ.map (Value.int .i64)) ∧ Below (w.setCell ⟨sb, 4, none⟩ (.bool true)).heap.size (w.setCell ⟨sb, 4, none⟩ (.bool true)) w' :=
    (waits_any sb _ F (w.setCell ⟨sb, 4, none⟩ (.bool true)) ⟨pb, cap, mb, xs, es, clock, hs⟩).mono fun e w' ⟨v, h1, h2, _, h4⟩ => ⟨v, h1, h2, h4⟩
  have HS := Lib.hid hs
  have HW := Lib.hid hw
  have HD := Lib.hid hd
  have HB := Lib.hid hbits
  have HN := Lib.hid hn
  have H := Lib.hid h
  have hfew := h.few
  clear h hd hs hw hbits hn
  go_enter Try.func29, Try.ntmps29
  go_wp2; go_step3
  go_wp2
  go_step3
  go_wp2_with (go_at_call 34; refine HW.out.mono ?_; rintro e w1 ⟨v, rfl, ho, hb1⟩; obtain ⟨A2, cp2, rfl, hcells⟩ := own_shape ho)
  have hd1 : DiskIs w1 (fun b => F b ∨ w.heap.size ≤ b) sb { d with down := true, pages := d.crashAt bits 0 } pb cap mb xs es clock := (HS.out.fr (Fr.of_below hb1 (fun _ => False)) (fun _ _ h => h.elim)).mono (fun _ _ h => .inl h)
  have H1 := Lib.hid hd1
  have HO := Lib.hid ho
  have HC := Lib.hid hcells
  have HB1 := Lib.hid hb1
  clear hd1 ho hcells hb1
  go_loopw [5, 24] (fun k i wr => CrashRel sb d bits F pb cap mb es clock w w1 k i wr) (fun _ i _ => d.waiting.length - (intOf i).toNat)
  case atStart => exact ⟨0, xs, Nat.zero_le _, rfl, rfl, H1.out, Fr.refl _ _⟩
  case round =>
    obtain ⟨j, xs', hj, rfl, rfl, hdr, hfr⟩ := hrel
    have HDR := Lib.hid hdr
    have HFR := Lib.hid hfr
    clear hdr hfr
    by_cases hlt : j < d.waiting.length
    · have hp : d.waiting[j] < d.pages.length := (mem_waiting.1 (List.getElem_mem hlt)).1
      generalize hpe : d.waiting[j] = p at hp
      have cj : ∃ g, A2 = some ⟨g, 0, none⟩ ∧ wr.cell? ⟨g, j, none⟩ = some (.int .i64 (p : Int)) := by
        obtain ⟨g, hg, hc⟩ := HC.out j (.int .i64 (p : Int)) (by simp [Dk.waitsZ, hlt, ← hpe])
        refine ⟨g, hg, cell_fr hc HFR.out (fun e => ?_)⟩
        subst hg
        exact own_types HO.out H1.out.own (by decide) g rfl (by rw [← e]; rfl)
      obtain ⟨g, rfl, cj⟩ := cj
      have hj1 : (j : Int) < (d.waiting.length : Int) := by omega
      have hwl : d.waiting.length ≤ 48 := Nat.le_trans (by simp only [Dk.waiting]; exact Nat.le_trans (List.length_filter_le _ _) (by simp)) hfew
      have HP := Lib.hid hpe
      clear hpe
      have hpl : (d.crashAt bits j).length = d.pages.length := d.crashAt_length bits j
      have hdr := HDR.out
      have c0r : wr.cell? ⟨sb, 0, none⟩ = some (.slice (some ⟨pb, 0, none⟩) d.pages.length cap) := by have := hdr.blk.cell 0 _ rfl; rw [← hpl]; exact this
      have c1r : wr.cell? ⟨sb, 1, none⟩ = some (.map (some mb)) := hdr.blk.cell 1 _ rfl
      obtain ⟨l, hwl2⟩ := Option.isSome_iff_exists.1 (mem_waiting.1 (HP.out ▸ List.getElem_mem hlt : p ∈ d.waiting)).2
      obtain ⟨x, hx, hxk, hxi⟩ := hdr.map.some_ hwl2
      obtain ⟨gi, ci, hxv, hci⟩ := hxi.form
      have hlk := run_lookup1_some (P := Try.prog) (w := wr) Try.underlying99 Try.underlying3 hdr.map.heap hdr.map.ints hdr.map.keys hx hxk
      rw [hxv] at hlk hxi
      have HPL := Lib.hid hpl
      have HX := Lib.hid hxi
      have HWL := Lib.hid hwl2
      have hp1 : (p : Int) < (d.pages.length : Int) := by omega
      have hp0 : (0 : Int) ≤ (p : Int) := by omega
      have hoc := own_cell HDR.out.own
      obtain ⟨la, hla⟩ : ∃ la, la = (d.crashAt bits j).getD p [] := ⟨_, rfl⟩
      have cp0 : ∃ ga ca, wr.cell? ⟨pb, p, none⟩ = some (.slice (some ⟨ga, 0, none⟩) 24 ca) ∧ Hid (Img wr (fun b => F b ∨ w.heap.size ≤ b) (.slice (some ⟨ga, 0, none⟩) 24 ca) la) := by
        obtain ⟨v, hv, hi⟩ := HDR.out.img p la (by simp [hla, List.getD, HPL.out, hp])
        obtain ⟨ga, ca, rfl, _⟩ := hi.form
        exact ⟨ga, ca, hoc.2.1 p _ hv, Lib.hid hi⟩
      have HLA := Lib.hid hla
      clear hla
      obtain ⟨ga, ca, cpp, HIA⟩ := cp0
      have fpp := hoc.1 p
      clear hoc
      clear hdr hwl2 hx hxk hxv hci hxi hpl
      by_cases hb : j / 4 < n
      · obtain ⟨bb, bo, rfl, hcb, hbb⟩ := HB.out (j / 4) hb
        have hcb2 : wr.cell? ⟨bb, bo + j / 4, none⟩ = some (.int .u8 (bits.getD (j / 4) 0)) := by
          have k1 : (w.setCell ⟨sb, 4, none⟩ (.bool true)).cell? ⟨bb, bo + j / 4, none⟩ = some (.int .u8 (bits.getD (j / 4) 0)) := cell_fr hcb ((Fr.refl (fun b => b = sb) w).at_ 4 _) (fun e => hbb (by show F bb; rw [show bb = sb from e]; exact H.out.fs))
          exact cell_fr (cell_fr k1 (Fr.of_below HB1.out (fun _ => False)) (fun h => h)) HFR.out (fun e => hbb (by show F bb; rw [show bb = pb from e]; exact H.out.fp))
        generalize hx : bits.getD (j / 4) 0 = bx at hcb2
        have hq : (j : Int) / 4 < (n : Int) := by omega
        have HQ := Lib.hid hx
        clear hx hcb hbb
        have hsb := shr_byte bx (by rw [← HQ.out]; exact (hbyte _).1) (by rw [← HQ.out]; exact (hbyte _).2) (j % 4)
        have hwh : what bits j = (bx / 4 ^ (j % 4)) % 4 := by unfold what; rw [HN.out, if_pos hb, HQ.out]
        rw [← hwh] at hsb
        have hrange : what bits j = 0 ∨ what bits j = 1 ∨ what bits j = 2 ∨ what bits j = 3 := by rw [hwh]; omega
        have hws : w.heap.size ≤ wr.heap.size := Nat.le_trans (by simpa using HB1.out.size) HFR.out.size
        rcases hrange with hq0 | hq0 | hq0 | hq0 <;> rw [hq0] at hsb
        · have HQ0 := Lib.hid hq0
          clear hq0 hwh
          go_wp2_with fail
          exact ⟨crash_round0 HDR.out HFR.out hlt HP.out HWL.out HQ0.out, by simp [intOf]; omega⟩
        · have HQ0 := Lib.hid hq0
          clear hq0 hwh
          go_wp2_with fail
          exact ⟨crash_round HDR.out HFR.out hlt HP.out HWL.out (Below.refl _ _) HX.out (by rw [HQ0.out]; rfl), by simp [intOf]; omega⟩
        · have HQ0 := Lib.hid hq0
          have HCC := Lib.hid (halves (o1 := 0) (o2 := 12) (k1 := ci) (k2 := ca - 12) HX.out HIA.out (by omega) (by omega))
          have hci := (own_cell HX.out.1).2.2.1
          have hca := (own_cell HIA.out.1).2.2.1
          have hci1 : (12 : Int) ≤ (ci : Int) := by omega
          have hca1 : (12 : Int) ≤ (ca : Int) := by omega
          have hca2 : ¬ ca = 12 := by omega
          have hka : ∀ o, (wr.alloc o).cell? ⟨sb, 0, none⟩ = some (.slice (some ⟨pb, 0, none⟩) d.pages.length cap) := fun o => cell_alloc c0r o
          have hsbs : sb < wr.heap.size := HDR.out.blk.lt
          have hpbs : pb < wr.heap.size := own_size HDR.out.own pb rfl
          have hkf : ∀ o, (wr.alloc o).frozen? ⟨pb, p, none⟩ = false := fun o => (World.frozen?_alloc_past o pb p hpbs).trans fpp
          have hkp : ∀ o, (wr.alloc o).cell? ⟨pb, p, none⟩ = some (.slice (some ⟨ga, 0, none⟩) 24 ca) := fun o => cell_alloc cpp o
          clear hq0 hwh
          go_wp2_with fail
          go_region_law (go_simp; go_at_call 64; refine HCC.out.mono ?_; rintro e w2 ⟨v2, rfl, ho2, hb2⟩; obtain ⟨g3, c3, rfl, _⟩ := own_form ho2 (by omega); have cs2 := (hb2.cell (p := ⟨sb, 0, none⟩) (by simp; omega)).trans (hka _); have cq2 := (hb2.cell (p := ⟨pb, p, none⟩) (by simp; omega)).trans (hkp _); have fq2 := (hb2.frozen (p := ⟨pb, p, none⟩) (by simp; omega)).trans (hkf _))
          all_goals go_wp2
          all_goals exact ⟨crash_round HDR.out HFR.out hlt HP.out HWL.out (((Below.refl _ _).alloc (Nat.le_refl _) _).drew.trans (hb2.mono (by simp))) ⟨own_base0 ho2, half_len HX.out HIA.out, fun b hb => .inr (Nat.le_trans hws (Nat.le_trans (by simp) (own_ge ho2 b hb)))⟩ (by rw [HQ0.out, ← HLA.out]; exact half_eq HIA.out), by simp [intOf]; omega⟩
        · have HQ0 := Lib.hid hq0
          have HCC := Lib.hid (halves (o1 := 0) (o2 := 12) (k1 := ca) (k2 := ci - 12) HIA.out HX.out (by omega) (by omega))
          have hci := (own_cell HX.out.1).2.2.1
          have hca := (own_cell HIA.out.1).2.2.1
          have hci1 : (12 : Int) ≤ (ci : Int) := by omega
          have hca1 : (12 : Int) ≤ (ca : Int) := by omega
          have hci2 : ¬ ci = 12 := by omega
          have hka : ∀ o, (wr.alloc o).cell? ⟨sb, 0, none⟩ = some (.slice (some ⟨pb, 0, none⟩) d.pages.length cap) := fun o => cell_alloc c0r o
          have hsbs : sb < wr.heap.size := HDR.out.blk.lt
          have hpbs : pb < wr.heap.size := own_size HDR.out.own pb rfl
          have hkf : ∀ o, (wr.alloc o).frozen? ⟨pb, p, none⟩ = false := fun o => (World.frozen?_alloc_past o pb p hpbs).trans fpp
          have hkp : ∀ o, (wr.alloc o).cell? ⟨pb, p, none⟩ = some (.slice (some ⟨ga, 0, none⟩) 24 ca) := fun o => cell_alloc cpp o
          clear hq0 hwh
          go_wp2_with fail
          go_region_law (go_simp; go_at_call 64; refine HCC.out.mono ?_; rintro e w2 ⟨v2, rfl, ho2, hb2⟩; obtain ⟨g3, c3, rfl, _⟩ := own_form ho2 (by omega); have cs2 := (hb2.cell (p := ⟨sb, 0, none⟩) (by simp; omega)).trans (hka _); have cq2 := (hb2.cell (p := ⟨pb, p, none⟩) (by simp; omega)).trans (hkp _); have fq2 := (hb2.frozen (p := ⟨pb, p, none⟩) (by simp; omega)).trans (hkf _))
          all_goals go_wp2
          all_goals exact ⟨crash_round HDR.out HFR.out hlt HP.out HWL.out (((Below.refl _ _).alloc (Nat.le_refl _) _).drew.trans (hb2.mono (by simp))) ⟨own_base0 ho2, half_len HIA.out HX.out, fun b hb => .inr (Nat.le_trans hws (Nat.le_trans (by simp) (own_ge ho2 b hb)))⟩ (by rw [HQ0.out, ← HLA.out]; exact half_eq3 HX.out), by simp [intOf]; omega⟩
      · have hq : ¬ (j : Int) / 4 < (n : Int) := by omega
        have hwh : what bits j = 0 := by unfold what; rw [HN.out, if_neg hb]
        have HQ0 := Lib.hid hwh
        clear hwh
        go_wp2_with fail
        exact ⟨crash_round0 HDR.out HFR.out hlt HP.out HWL.out HQ0.out, by simp [intOf]; omega⟩
    · have hje : j = d.waiting.length := by omega
      subst hje
      have c1r : wr.cell? ⟨sb, 1, none⟩ = some (.map (some mb)) := HDR.out.blk.cell 1 _ rfl
      have hmm := Lib.hid HDR.out.map.heap
      go_wp2_with (with_reducible refine wpList_clear_at rfl _ 99 3 25 rfl Try.underlying99 mb es clock rfl hmm.out ?_; intro w2 hm2 hf2)
      go_wp2
      try rw [Exit.noGoto_ret]
      go_ret
      exact crash_end HD.out H.out HDR.out HB1.out HFR.out hm2 hf2
end Go.Proofs.Ytcapfahhoijblaa
