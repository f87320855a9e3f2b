/- The reference's device: Read, Write, Fail. Conditions: each contract's premises. -/
import Derived.Test.YtcapfahhoijblaaRDiskOps
set_option linter.unusedVariables false
set_option linter.unusedSimpArgs false
set_option maxRecDepth 100000
namespace Go.Proofs.Ytcapfahhoijblaa
open Go.RowKit
def RReadTo (sb : Nat) (d : Dk) (s : ByteArray) (c : Int) (F : Nat → Prop) (w : World) (e : Ending) (w' : World) : Prop :=
  e = .returned (.tuple #[.string s, .int .i64 c]) ∧ RDAt w' F sb d ∧ Fr (fun b => b = sb) w w'
theorem rread_arg (sb : Nat) (d : Dk) (p : Int) (F : Nat → Prop) (w : World) (h : RDAt w F sb d) (hp : p < 0 ∨ d.pages.length ≤ p) :
    Calls Try.prog 21 #[.pointer (some ⟨sb, 0, none⟩), .int .i64 p] w (RReadTo sb d ⟨#[]⟩ 1 F w) := by
  have H := Lib.hid h
  obtain ⟨tl, wt, pb, tb, wb, pc, tc, wc, hd⟩ := h
  have c0 : w.cell? ⟨sb, 0, none⟩ = some (.slice (some ⟨pb, 0, none⟩) d.pages.length pc) := hd.blk.cell 0 _ rfl
  clear hd
  rcases hp with hp | hp
  · go_enter Try.func21, Try.ntmps21
    go_wp2
    go_ret2
    exact ⟨rfl, H.out, Fr.refl _ _⟩
  · have hp' : ¬ p < 0 := by omega
    go_enter Try.func21, Try.ntmps21
    go_wp2
    go_ret2
    exact ⟨rfl, H.out, Fr.refl _ _⟩
theorem rread_no (sb : Nat) (d : Dk) (p : Nat) (F : Nat → Prop) (w : World) (h : RDAt w F sb d) (hp : p < d.pages.length) (ha : d.acc < 1000000000) (hc : d.code ≠ 0) :
    Calls Try.prog 21 #[.pointer (some ⟨sb, 0, none⟩), .int .i64 p] w (RReadTo sb d.hit ⟨#[]⟩ d.code F w) := by
  obtain ⟨tl, wt, pb, tb, wb, pc, tc, wc, hd⟩ := h
  have c0 : w.cell? ⟨sb, 0, none⟩ = some (.slice (some ⟨pb, 0, none⟩) d.pages.length pc) := hd.blk.cell 0 _ rfl
  have c5 : w.cell? ⟨sb, 5, none⟩ = some (.bool d.down) := hd.blk.cell 5 _ rfl
  have hp1 : ¬ (p : Int) < 0 := by omega
  have hp2 : (p : Int) < (d.pages.length : Int) := by omega
  have HD := Lib.hid hd
  cases hdn : d.down with
  | true =>
    have hcd : d.code = 12 := by simp [Dk.code, hdn]
    have hh : d.hit = d := by simp [Dk.hit, hdn]
    rw [hcd, hh]
    rw [hdn] at c5
    have HN := Lib.hid hdn
    clear hd hc hcd hh hdn ha hp
    go_enter Try.func21, Try.ntmps21
    go_wp2
    go_ret2
    exact ⟨rfl, ⟨_, _, _, _, _, _, _, _, HD.out⟩, Fr.refl _ _⟩
  | false =>
    have hf1 : d.fails = 1 := by
      by_cases h1 : d.fails = 1
      · exact h1
      · exact absurd (by simp [Dk.code, hdn, h1]) hc
    have hcd : d.code = 9 := by simp [Dk.code, hdn, hf1]
    rw [hcd]
    have hacc := raccess_any sb _ _ _ d w hd.blk hdn hd.acc0 ha hd.fail0 hd.fail1
    have hb : decide (d.fails ≠ 1) = false := by simp [hf1]
    have HB := Lib.hid hb
    have HA := Lib.hid hacc
    rw [hdn] at c5
    clear hd hc hcd hdn hf1 hacc hb ha hp
    go_enter Try.func21, Try.ntmps21
    go_wp2_with fail
    refine HA.out.mono ?_
    rintro e w1 ⟨rfl, hb1, hf1⟩
    rw [HB.out]
    go_wp2
    go_ret2
    exact ⟨rfl, ⟨_, _, _, _, _, _, _, _, HD.out.hit hb1 hf1⟩, hf1⟩
theorem rread_ok (sb : Nat) (d : Dk) (p : Nat) (F : Nat → Prop) (w : World) (h : RDAt w F sb d) (hp : p < d.pages.length) (ha : d.acc < 1000000000) (hc : d.code = 0) :
    Calls Try.prog 21 #[.pointer (some ⟨sb, 0, none⟩), .int .i64 p] w (RReadTo sb d.hit (strOfNums (d.get p)) 0 F w) := by
  obtain ⟨tl, wt, pb, tb, wb, pc, tc, wc, hd⟩ := h
  have c0 : w.cell? ⟨sb, 0, none⟩ = some (.slice (some ⟨pb, 0, none⟩) d.pages.length pc) := hd.blk.cell 0 _ rfl
  have c5 : w.cell? ⟨sb, 5, none⟩ = some (.bool d.down) := hd.blk.cell 5 _ rfl
  have hp0 : (0 : Int) ≤ (p : Int) := by omega
  have hp1 : ¬ (p : Int) < 0 := by omega
  have hp2 : (p : Int) < (d.pages.length : Int) := by omega
  have hdn : d.down = false := by
    cases hdn : d.down with
    | false => rfl
    | true => simp [Dk.code, hdn] at hc
  have hf1 : d.fails ≠ 1 := by
    intro h1; simp [Dk.code, hdn, h1] at hc
  have hacc := raccess_any sb _ _ _ d w hd.blk hdn hd.acc0 ha hd.fail0 hd.fail1
  have hb : decide (d.fails ≠ 1) = true := by simpa using hf1
  obtain ⟨st, hst⟩ : ∃ s, strOfNums (d.get p) = s := ⟨_, rfl⟩
  have ht : (strs tl)[p]? = some (.string st) := by
    rw [← hst]
    refine strs_get ?_
    rw [hd.tls hdn]; simp [hp]
  have ct : w.cell? ⟨tb, p, none⟩ = some (.string st) := (own_cell hd.tail).2.1 p _ ht
  have hcell : ∀ w1, Fr (fun b => b = sb) w w1 → w1.cell? ⟨tb, p, none⟩ = some (.string st) := fun w1 hf => cell_fr ct hf hd.types.2.1
  have HB := Lib.hid hb
  have HA := Lib.hid hacc
  have HC := Lib.hid hcell
  have HD := Lib.hid hd
  rw [hst]
  rw [hdn] at c5
  clear hd hc hdn hf1 hacc hb ha hst ht ct hcell hp
  go_enter Try.func21, Try.ntmps21
  go_wp2_with fail
  refine HA.out.mono ?_
  rintro e w1 ⟨rfl, hb1, hf1⟩
  rw [HB.out]
  have c1 : w1.cell? ⟨sb, 1, none⟩ = some (.slice (some ⟨tb, 0, none⟩) d.pages.length tc) := hb1.cell 1 _ rfl
  have ct := HC.out w1 hf1
  have H1 := Lib.hid (HD.out.hit hb1 hf1)
  have HF := Lib.hid hf1
  clear hb1 hf1
  go_wp2
  go_ret2
  exact ⟨rfl, ⟨_, _, _, _, _, _, _, _, H1.out⟩, HF.out⟩
def RWriteTo (sb : Nat) (d : Dk) (c : Int) (F : Nat → Prop) (w : World) (e : Ending) (w' : World) : Prop :=
  e = .returned (.int .i64 c) ∧ RDAt w' F sb d ∧ Fr F w w'
theorem rwrite_arg (sb : Nat) (d : Dk) (p : Int) (s : ByteArray) (F : Nat → Prop) (w : World) (h : RDAt w F sb d) (hp : p < 0 ∨ d.pages.length ≤ p ∨ s.size ≠ 24) (hs : s.size ≤ 1000000000000) :
    Calls Try.prog 24 #[.pointer (some ⟨sb, 0, none⟩), .int .i64 p, .string s] w (RWriteTo sb d 1 F w) := by
  have H := Lib.hid h
  obtain ⟨tl, wt, pb, tb, wb, pc, tc, wc, hd⟩ := h
  have c0 : w.cell? ⟨sb, 0, none⟩ = some (.slice (some ⟨pb, 0, none⟩) d.pages.length pc) := hd.blk.cell 0 _ rfl
  clear hd
  by_cases h0 : p < 0
  · clear hp
    go_enter Try.func24, Try.ntmps24
    go_wp2
    go_ret
    exact ⟨rfl, H.out, Fr.refl _ _⟩
  · by_cases h1 : d.pages.length ≤ p
    · clear hp
      go_enter Try.func24, Try.ntmps24
      go_wp2
      go_ret
      exact ⟨rfl, H.out, Fr.refl _ _⟩
    · have h2 : ((s.size : Int) != 24) = true := by rw [bne_iff_ne]; omega
      clear hp
      go_enter Try.func24, Try.ntmps24
      go_wp2
      go_ret
      exact ⟨rfl, H.out, Fr.refl _ _⟩
theorem rwrite_no (sb : Nat) (d : Dk) (p : Nat) (s : ByteArray) (F : Nat → Prop) (w : World) (h : RDAt w F sb d) (hp : p < d.pages.length) (hs : s.size = 24) (ha : d.acc < 1000000000) (hc : d.code ≠ 0) :
    Calls Try.prog 24 #[.pointer (some ⟨sb, 0, none⟩), .int .i64 p, .string s] w (RWriteTo sb d.hit d.code F w) := by
  obtain ⟨tl, wt, pb, tb, wb, pc, tc, wc, hd⟩ := h
  have c0 : w.cell? ⟨sb, 0, none⟩ = some (.slice (some ⟨pb, 0, none⟩) d.pages.length pc) := hd.blk.cell 0 _ rfl
  have c5 : w.cell? ⟨sb, 5, none⟩ = some (.bool d.down) := hd.blk.cell 5 _ rfl
  have hp1 : ¬ (p : Int) < 0 := by omega
  have hp2 : (p : Int) < (d.pages.length : Int) := by omega
  have hs2 : ((s.size : Int) != 24) = false := by rw [hs]; rfl
  have HD := Lib.hid hd
  clear hs
  cases hdn : d.down with
  | true =>
    have hcd : d.code = 12 := by simp [Dk.code, hdn]
    have hh : d.hit = d := by simp [Dk.hit, hdn]
    rw [hcd, hh]
    rw [hdn] at c5
    have HN := Lib.hid hdn
    clear hd hc hcd hh hdn ha hp
    go_enter Try.func24, Try.ntmps24
    go_wp2
    go_ret
    exact ⟨rfl, ⟨_, _, _, _, _, _, _, _, HD.out⟩, Fr.refl _ _⟩
  | false =>
    have hf1 : d.fails = 1 := by
      by_cases h1 : d.fails = 1
      · exact h1
      · exact absurd (by simp [Dk.code, hdn, h1]) hc
    have hcd : d.code = 9 := by simp [Dk.code, hdn, hf1]
    rw [hcd]
    have hacc := raccess_any sb _ _ _ d w hd.blk hdn hd.acc0 ha hd.fail0 hd.fail1
    have hb : decide (d.fails ≠ 1) = false := by simp [hf1]
    have HB := Lib.hid hb
    have HA := Lib.hid hacc
    rw [hdn] at c5
    clear hd hc hcd hdn hf1 hacc hb ha hp
    go_enter Try.func24, Try.ntmps24
    go_wp2_with fail
    refine HA.out.mono ?_
    rintro e w1 ⟨rfl, hb1, hf1⟩
    rw [HB.out]
    go_wp2
    go_ret
    exact ⟨rfl, ⟨_, _, _, _, _, _, _, _, HD.out.hit hb1 hf1⟩, hf1.mono (fun b _ e => e ▸ HD.out.fs)⟩
theorem RDIs.put {w : World} {F : Nat → Prop} {sb p : Nat} {d : Dk} {l : List Int} {tl : List (List Int)} {wt : List Bool} {pb tb wb pc tc wc : Nat} (h : RDIs w F sb d tl wt pb tb wb pc tc wc) (hp : p < d.pages.length) (hl : l.length = 24) :
    RDIs ((w.setCell ⟨tb, p, none⟩ (.string (strOfNums l))).setCell ⟨wb, p, none⟩ (.bool true)) F sb (d.put p l) (tl.set p l) (wt.set p true) pb tb wb pc tc wc := by
  obtain ⟨h1, h2, h3, h4, h5⟩ := h.types
  have hf1 : Fr (fun b => b = tb) w (w.setCell ⟨tb, p, none⟩ (.string (strOfNums l))) := (Fr.refl _ _).setCell _ _ (.inl rfl)
  have hf2 : Fr (fun b => b = wb) (w.setCell ⟨tb, p, none⟩ (.string (strOfNums l))) ((w.setCell ⟨tb, p, none⟩ (.string (strOfNums l))).setCell ⟨wb, p, none⟩ (.bool true)) := (Fr.refl _ _).setCell _ _ (.inl rfl)
  have ht := (h.tail.stored p (.string (strOfNums l))).1
  have hw := own_fr h.wait hf1 (fun b hb e => h5 (by have := ownb b hb; omega))
  have hw2 := (hw.stored p (.bool true)).1
  refine ⟨(h.blk.fr hf1 (Ne.symm h2)).fr hf2 (Ne.symm h3), own_fr (own_fr h.safe hf1 (fun b hb e => h.ne (by have := ownb b hb; omega))) hf2 (fun b hb e => h4 (by have := ownb b hb; omega)), ?_, ?_, h.ne, h.fs, h.fp, h.ft, h.fw, h.some_, h.few, h.acc0, h.fail0, h.fail1, ?_, ?_, h.l24, ?_⟩
  · have e : strs (tl.set p l) = (strs tl).set p (.string (strOfNums l)) := by simp [strs, List.map_set]
    rw [e]
    exact own_fr ht hf2 (fun b hb e => h5 (by have := ownb b hb; omega))
  · have e : boolv (wt.set p true) = (boolv wt).set p (.bool true) := by simp [boolv, List.map_set]
    rw [e]
    exact hw2
  · intro hd
    rw [h.tls hd]
    apply List.ext_getElem
    · simp [Dk.put]
    · intro i h1 h2
      simp only [List.length_set, List.length_map, List.length_range] at h1
      simp only [List.getElem_set, List.getElem_map, List.getElem_range, Dk.put, Dk.get, upd]
      by_cases e : p = i
      · subst e; simp
      · simp [e, Ne.symm e]
  · rw [h.wts]
    apply List.ext_getElem
    · simp [Dk.put]
    · intro i h1 h2
      simp only [List.getElem_set, List.getElem_map, List.getElem_range, Dk.put, upd]
      by_cases e : p = i
      · subst e; simp
      · simp [e, Ne.symm e]
  · intro i l' hi hw'
    simp only [Dk.put, upd] at hw'
    split at hw'
    · obtain rfl := Option.some.inj hw'; exact hl
    · exact h.t24 i l' hi hw'
theorem rwrite_ok (sb : Nat) (d : Dk) (p : Nat) (l : List Int) (F : Nat → Prop) (w : World) (h : RDAt w F sb d) (hp : p < d.pages.length) (hl : l.length = 24) (ha : d.acc < 1000000000) (hc : d.code = 0) :
    Calls Try.prog 24 #[.pointer (some ⟨sb, 0, none⟩), .int .i64 p, .string (strOfNums l)] w (RWriteTo sb (d.hit.put p l) 0 F w) := by
  obtain ⟨tl, wt, pb, tb, wb, pc, tc, wc, hd⟩ := h
  have c0 : w.cell? ⟨sb, 0, none⟩ = some (.slice (some ⟨pb, 0, none⟩) d.pages.length pc) := hd.blk.cell 0 _ rfl
  have c5 : w.cell? ⟨sb, 5, none⟩ = some (.bool d.down) := hd.blk.cell 5 _ rfl
  have hp0 : (0 : Int) ≤ (p : Int) := by omega
  have hp1 : ¬ (p : Int) < 0 := by omega
  have hp2 : (p : Int) < (d.pages.length : Int) := by omega
  have hdn : d.down = false := by
    cases hdn : d.down with
    | false => rfl
    | true => simp [Dk.code, hdn] at hc
  have hf1 : d.fails ≠ 1 := by
    intro h1; simp [Dk.code, hdn, h1] at hc
  have hacc := raccess_any sb _ _ _ d w hd.blk hdn hd.acc0 ha hd.fail0 hd.fail1
  have hb : decide (d.fails ≠ 1) = true := by simpa using hf1
  have hsz : (((strOfNums l).size : Nat) : Int) = 24 := by rw [strOfNums_size, hl]; rfl
  have hz : ((((strOfNums l).size : Nat) : Int) != 24) = false := by rw [hsz]; rfl
  have HL := Lib.hid hl
  have HS := Lib.hid hsz
  clear hl hsz
  have hout : ∀ w1, RDIs w1 F sb d.hit tl wt pb tb wb pc tc wc → RDIs ((w1.setCell ⟨tb, p, none⟩ (.string (strOfNums l))).setCell ⟨wb, p, none⟩ (.bool true)) F sb (d.hit.put p l) (tl.set p l) (wt.set p true) pb tb wb pc tc wc := fun w1 h1 => h1.put (by rw [Dk.hit_pages]; exact hp) HL.out
  obtain ⟨st, hst⟩ : ∃ s, strOfNums l = s := ⟨_, rfl⟩
  rw [hst] at hz hout ⊢
  have HB := Lib.hid hb
  have HA := Lib.hid hacc
  have HO := Lib.hid hout
  have HD := Lib.hid hd
  have HN := Lib.hid hdn
  have HP := Lib.hid hp
  rw [hdn] at c5
  clear hd hc hdn hf1 hacc hb ha hst hout hp HS HL
  go_enter Try.func24, Try.ntmps24
  go_wp2_with fail
  refine HA.out.mono ?_
  rintro e w1 ⟨rfl, hb1, hf1⟩
  rw [HB.out]
  have h1 := HD.out.hit hb1 hf1
  have c1 : w1.cell? ⟨sb, 1, none⟩ = some (.slice (some ⟨tb, 0, none⟩) d.pages.length tc) := hb1.cell 1 _ rfl
  have c2 : w1.cell? ⟨sb, 2, none⟩ = some (.slice (some ⟨wb, 0, none⟩) d.pages.length wc) := hb1.cell 2 _ rfl
  have ht := own_cell h1.tail
  have hw := own_cell h1.wait
  obtain ⟨vt, hvt⟩ : ∃ v, w1.cell? ⟨tb, p, none⟩ = some v := ⟨_, ht.2.1 p _ (List.getElem?_eq_getElem (by have := h1.tail.1; rw [this, Dk.hit_pages, Nat.mul_one]; exact HP.out))⟩
  obtain ⟨vw, hvw⟩ : ∃ v, w1.cell? ⟨wb, p, none⟩ = some v := ⟨_, hw.2.1 p _ (List.getElem?_eq_getElem (by have := h1.wait.1; rw [this, Dk.hit_pages, Nat.mul_one]; exact HP.out))⟩
  have ft := ht.1 p
  have fw := hw.1 p
  have htw : tb ≠ wb := h1.types.2.2.2.2
  have hts : tb ≠ sb := h1.types.2.1
  have hws : wb ≠ sb := h1.types.2.2.1
  have hfin := HO.out w1 h1
  have hfr : Fr F w ((w1.setCell ⟨tb, p, none⟩ (.string st)).setCell ⟨wb, p, none⟩ (.bool true)) := ((hf1.mono (fun b _ e => e ▸ HD.out.fs)).setCell ⟨tb, p, none⟩ _ (.inl HD.out.ft)).setCell ⟨wb, p, none⟩ _ (.inl HD.out.fw)
  have HFIN := Lib.hid hfin
  have HFR := Lib.hid hfr
  clear hb1 hf1 ht hw h1 hfin hfr
  go_wp2_with fail
  go_region
  all_goals go_wp2
  all_goals go_ret
  all_goals exact ⟨rfl, ⟨_, _, _, _, _, _, _, _, HFIN.out.fr ((Fr.refl (fun _ => False) _).drew) (fun _ _ h => h.elim)⟩, HFR.out.drew⟩
def RFailTo (sb : Nat) (d : Dk) (n : Int) (F : Nat → Prop) (w : World) (e : Ending) (w' : World) : Prop :=
  e = .returned (.bool (Dk.failOk n)) ∧ RDAt w' F sb (d.fail n) ∧ Fr (fun b => b = sb) w w'
theorem rfail_any (sb : Nat) (d : Dk) (n : Int) (F : Nat → Prop) (w : World) (h : RDAt w F sb d) : Calls Try.prog 28 #[.pointer (some ⟨sb, 0, none⟩), .int .i64 n] w (RFailTo sb d n F w) := by
  have H := Lib.hid h
  obtain ⟨tl, wt, pb, tb, wb, pc, tc, wc, hd⟩ := h
  have c4 : w.cell? ⟨sb, 4, none⟩ = some (.int .i64 d.fails) := hd.blk.cell 4 _ rfl
  have f4 := hd.blk.free 4
  by_cases h0 : n < 0
  · have hk : Dk.failOk n = false := by simp [Dk.failOk]; omega
    have hf : d.fail n = d := by unfold Dk.fail; rw [if_neg (by omega)]
    rw [show RFailTo sb d n F w = fun e w' => e = .returned (.bool false) ∧ RDAt w' F sb d ∧ Fr (fun b => b = sb) w w' from by unfold RFailTo; rw [hk, hf]]
    clear hk hf hd
    go_enter Try.func28, Try.ntmps28
    go_wp2
    go_ret
    exact ⟨rfl, H.out, Fr.refl _ _⟩
  · by_cases h1 : n > 1000000
    · have hk : Dk.failOk n = false := by simp [Dk.failOk]; omega
      have hf : d.fail n = d := by unfold Dk.fail; rw [if_neg (by omega)]
      rw [show RFailTo sb d n F w = fun e w' => e = .returned (.bool false) ∧ RDAt w' F sb d ∧ Fr (fun b => b = sb) w w' from by unfold RFailTo; rw [hk, hf]]
      clear hk hf hd
      go_enter Try.func28, Try.ntmps28
      go_wp2
      go_ret
      exact ⟨rfl, H.out, Fr.refl _ _⟩
    · have hk : Dk.failOk n = true := by simp [Dk.failOk]; omega
      have hf : d.fail n = { d with fails := n } := by unfold Dk.fail; rw [if_pos (by omega)]
      have hb := hd.blk.set 4 (.int .i64 n)
      have fr : Fr (fun b => b = sb) w (w.setCell ⟨sb, 4, none⟩ (.int .i64 n)) := (Fr.refl _ _).setCell _ _ (.inl rfl)
      obtain ⟨t1, t2, t3, _⟩ := hd.types
      have hr : RDAt (w.setCell ⟨sb, 4, none⟩ (.int .i64 n)) F sb { d with fails := n } := ⟨tl, wt, pb, tb, wb, pc, tc, wc, hb, own_fr hd.safe fr (fun b hb e => t1 (by have := ownb b hb; omega)), own_fr hd.tail fr (fun b hb e => t2 (by have := ownb b hb; omega)), own_fr hd.wait fr (fun b hb e => t3 (by have := ownb b hb; omega)), hd.ne, hd.fs, hd.fp, hd.ft, hd.fw, hd.some_, hd.few, hd.acc0, by show 0 ≤ n; omega, by show n ≤ 1000000; omega, hd.tls, hd.wts, hd.l24, hd.t24⟩
      rw [show RFailTo sb d n F w = fun e w' => e = .returned (.bool true) ∧ RDAt w' F sb { d with fails := n } ∧ Fr (fun b => b = sb) w w' from by unfold RFailTo; rw [hk, hf]]
      have HR := Lib.hid hr
      have HF := Lib.hid fr
      clear hk hf hd hb fr hr t1 t2 t3
      go_enter Try.func28, Try.ntmps28
      go_wp2
      go_ret
      exact ⟨rfl, HR.out, HF.out⟩
end Go.Proofs.Ytcapfahhoijblaa
