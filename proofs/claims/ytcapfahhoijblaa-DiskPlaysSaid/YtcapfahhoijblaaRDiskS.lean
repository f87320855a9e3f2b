/- The reference's device: Sync, Waits. Conditions: each contract's premises. -/
import Derived.Test.YtcapfahhoijblaaRDiskRw
import Derived.Test.YtcapfahhoijblaaWaits
set_option linter.unusedVariables false
set_option linter.unusedSimpArgs false
set_option maxRecDepth 100000
namespace Go.Proofs.Ytcapfahhoijblaa
open Go.RowKit
/-- The reference's device in memory, whatever its rows hold. -/
structure RRows (w : World) (F : Nat → Prop) (sb n : Nat) (pg tl : List (List Int)) (wt : List Bool) (acc fails : Int) (down : Bool) (pb tb wb pc tc wc : Nat) : Prop where
  blk : Blk w sb 73 #[.slice (some ⟨pb, 0, none⟩) n pc, .slice (some ⟨tb, 0, none⟩) n tc, .slice (some ⟨wb, 0, none⟩) n wc, .int .i64 acc, .int .i64 fails, .bool down]
  safe : w.ownsRow 0 9 1 (.slice (some ⟨pb, 0, none⟩) n pc) n (strs pg)
  tail : w.ownsRow 0 9 1 (.slice (some ⟨tb, 0, none⟩) n tc) n (strs tl)
  wait : w.ownsRow 0 4 1 (.slice (some ⟨wb, 0, none⟩) n wc) n (boolv wt)
  ne : pb ≠ tb
  fs : F sb
  fp : F pb
  ft : F tb
  fw : F wb
section
variable {w w' : World} {F G : Nat → Prop} {sb n : Nat} {d : Dk} {pg tl : List (List Int)} {wt : List Bool} {acc fails : Int} {down : Bool} {pb tb wb pc tc wc : Nat}
theorem RDIs.rows (h : RDIs w F sb d tl wt pb tb wb pc tc wc) : RRows w F sb d.pages.length d.pages tl wt d.acc d.fails d.down pb tb wb pc tc wc := ⟨h.blk, h.safe, h.tail, h.wait, h.ne, h.fs, h.fp, h.ft, h.fw⟩
theorem RRows.types (h : RRows w F sb n pg tl wt acc fails down pb tb wb pc tc wc) : pb ≠ sb ∧ tb ≠ sb ∧ wb ≠ sb ∧ pb ≠ wb ∧ tb ≠ wb :=
  ⟨own_row_type h.safe h.blk (by decide) pb rfl, own_row_type h.tail h.blk (by decide) tb rfl, own_row_type h.wait h.blk (by decide) wb rfl, fun e => own_types h.safe h.wait (by decide) pb rfl (by rw [e]; rfl), fun e => own_types h.tail h.wait (by decide) tb rfl (by rw [e]; rfl)⟩
theorem RRows.lens (h : RRows w F sb n pg tl wt acc fails down pb tb wb pc tc wc) : pg.length = n ∧ tl.length = n ∧ wt.length = n := by
  have h1 := h.safe.1; have h2 := h.tail.1; have h3 := h.wait.1
  rw [strs_length] at h1 h2; rw [boolv_length] at h3
  omega
theorem RRows.cells (h : RRows w F sb n pg tl wt acc fails down pb tb wb pc tc wc) : w.cell? ⟨sb, 0, none⟩ = some (.slice (some ⟨pb, 0, none⟩) n pc) ∧ w.cell? ⟨sb, 1, none⟩ = some (.slice (some ⟨tb, 0, none⟩) n tc) ∧ w.cell? ⟨sb, 2, none⟩ = some (.slice (some ⟨wb, 0, none⟩) n wc) ∧ w.cell? ⟨sb, 5, none⟩ = some (.bool down) ∧ w.frozen? ⟨sb, 5, none⟩ = false :=
  ⟨h.blk.cell 0 _ rfl, h.blk.cell 1 _ rfl, h.blk.cell 2 _ rfl, h.blk.cell 5 _ rfl, h.blk.free 5⟩
theorem RRows.at_ (h : RRows w F sb n pg tl wt acc fails down pb tb wb pc tc wc) {i : Nat} (hi : i < n) : w.cell? ⟨pb, i, none⟩ = some (.string (strOfNums (pg.getD i []))) ∧ w.cell? ⟨tb, i, none⟩ = some (.string (strOfNums (tl.getD i []))) ∧ w.cell? ⟨wb, i, none⟩ = some (.bool (wt.getD i false)) ∧
    w.frozen? ⟨pb, i, none⟩ = false ∧ w.frozen? ⟨tb, i, none⟩ = false ∧ w.frozen? ⟨wb, i, none⟩ = false := by
  obtain ⟨l1, l2, l3⟩ := h.lens
  exact ⟨(own_cell h.safe).2.1 i _ (strs_get (by simp [List.getD, l1, hi])), (own_cell h.tail).2.1 i _ (strs_get (by simp [List.getD, l2, hi])), (own_cell h.wait).2.1 i _ (boolv_get (by simp [List.getD, l3, hi])), (own_cell h.safe).1 i, (own_cell h.tail).1 i, (own_cell h.wait).1 i⟩
theorem RRows.fr (h : RRows w F sb n pg tl wt acc fails down pb tb wb pc tc wc) (hf : Fr G w w') (hG : ∀ b, b < w.heap.size → G b → ¬ F b) : RRows w' F sb n pg tl wt acc fails down pb tb wb pc tc wc :=
  ⟨h.blk.fr hf (fun hb => hG _ h.blk.lt hb h.fs), own_fr h.safe hf (fun b hb hg => by have := ownb b hb; subst this; exact hG _ (own_size h.safe _ rfl) hg h.fp), own_fr h.tail hf (fun b hb hg => by have := ownb b hb; subst this; exact hG _ (own_size h.tail _ rfl) hg h.ft),
    own_fr h.wait hf (fun b hb hg => by have := ownb b hb; subst this; exact hG _ (own_size h.wait _ rfl) hg h.fw), h.ne, h.fs, h.fp, h.ft, h.fw⟩
theorem RRows.setSafe (h : RRows w F sb n pg tl wt acc fails down pb tb wb pc tc wc) (i : Nat) (l : List Int) : RRows (w.setCell ⟨pb, i, none⟩ (.string (strOfNums l))) F sb n (pg.set i l) tl wt acc fails down pb tb wb pc tc wc := by
  obtain ⟨h1, h2, h3, h4, h5⟩ := h.types
  have hf : Fr (fun b => b = pb) w (w.setCell ⟨pb, i, none⟩ (.string (strOfNums l))) := (Fr.refl _ _).setCell _ _ (.inl rfl)
  refine ⟨h.blk.fr hf (Ne.symm h1), ?_, own_fr h.tail hf (fun b hb e => h.ne (by have := ownb b hb; omega)), own_fr h.wait hf (fun b hb e => h4 (by have := ownb b hb; omega)), h.ne, h.fs, h.fp, h.ft, h.fw⟩
  have e : strs (pg.set i l) = (strs pg).set i (.string (strOfNums l)) := by simp [strs, List.map_set]
  rw [e]; exact (h.safe.stored i (.string (strOfNums l))).1
theorem RRows.setWait (h : RRows w F sb n pg tl wt acc fails down pb tb wb pc tc wc) (i : Nat) (b : Bool) : RRows (w.setCell ⟨wb, i, none⟩ (.bool b)) F sb n pg tl (wt.set i b) acc fails down pb tb wb pc tc wc := by
  obtain ⟨h1, h2, h3, h4, h5⟩ := h.types
  have hf : Fr (fun b => b = wb) w (w.setCell ⟨wb, i, none⟩ (.bool b)) := (Fr.refl _ _).setCell _ _ (.inl rfl)
  refine ⟨h.blk.fr hf (Ne.symm h3), own_fr h.safe hf (fun b hb e => h4 (by have := ownb b hb; omega)), own_fr h.tail hf (fun b hb e => h5 (by have := ownb b hb; omega)), ?_, h.ne, h.fs, h.fp, h.ft, h.fw⟩
  have e : boolv (wt.set i b) = (boolv wt).set i (.bool b) := by simp [boolv, List.map_set]
  rw [e]; exact (h.wait.stored i (.bool b)).1
theorem RRows.setDown (h : RRows w F sb n pg tl wt acc fails down pb tb wb pc tc wc) (b : Bool) : RRows (w.setCell ⟨sb, 5, none⟩ (.bool b)) F sb n pg tl wt acc fails b pb tb wb pc tc wc := by
  obtain ⟨h1, h2, h3, h4, h5⟩ := h.types
  have hf : Fr (fun b => b = sb) w (w.setCell ⟨sb, 5, none⟩ (.bool b)) := (Fr.refl _ _).setCell _ _ (.inl rfl)
  exact ⟨h.blk.set 5 (.bool b), own_fr h.safe hf (fun b hb e => h1 (by have := ownb b hb; omega)), own_fr h.tail hf (fun b hb e => h2 (by have := ownb b hb; omega)), own_fr h.wait hf (fun b hb e => h3 (by have := ownb b hb; omega)), h.ne, h.fs, h.fp, h.ft, h.fw⟩
end
def syncPg (pg tl : List (List Int)) (k : Nat) : List (List Int) := tl.take k ++ pg.drop k
def syncWt (wt : List Bool) (k : Nat) : List Bool := List.replicate k false ++ wt.drop k
theorem syncPg_step {pg tl : List (List Int)} {k : Nat} (h : pg.length = tl.length) (hk : k < tl.length) : (syncPg pg tl k).set k (tl.getD k []) = syncPg pg tl (k + 1) := by
  apply List.ext_getElem?
  intro i
  simp only [syncPg, List.getElem?_set, List.getElem?_append, List.length_append, List.length_take, List.length_drop, List.getElem?_take, List.getElem?_drop, List.getD]
  by_cases e : k = i
  · subst e
    rw [if_pos rfl, if_pos (by omega), if_pos (by omega), if_pos (by omega)]
    simp [hk]
  · rw [if_neg e]
    by_cases h1 : i < k
    · rw [if_pos (by omega), if_pos h1, if_pos (by omega), if_pos (by omega)]
    · rw [if_neg (by omega), if_neg (by omega)]
      congr 1; omega
theorem syncWt_step {wt : List Bool} {k : Nat} (hk : k < wt.length) : (syncWt wt k).set k false = syncWt wt (k + 1) := by
  apply List.ext_getElem?
  intro i
  simp only [syncWt, List.getElem?_set, List.getElem?_append, List.length_append, List.length_replicate, List.length_drop, List.getElem?_replicate, List.getElem?_drop]
  by_cases e : k = i
  · subst e
    rw [if_pos rfl, if_pos (by omega), if_pos (by omega), if_pos (by omega)]
  · rw [if_neg e]
    by_cases h1 : i < k
    · rw [if_pos h1, if_pos h1, if_pos (by omega), if_pos (by omega)]
    · rw [if_neg (by omega), if_neg (by omega)]
      congr 1; omega
def RSyncRel (w0 : World) (F : Nat → Prop) (sb : Nat) (d : Dk) (tl : List (List Int)) (wt : List Bool) (pb tb wb pc tc wc : Nat) (i : Value) (wr : World) : Prop :=
  ∃ k : Nat, k ≤ d.pages.length ∧ i = .int .i64 k ∧ RRows wr F sb d.pages.length (syncPg d.pages tl k) tl (syncWt wt k) d.hit.acc d.hit.fails d.down pb tb wb pc tc wc ∧ Fr F w0 wr
theorem rsync_no (sb : Nat) (d : Dk) (F : Nat → Prop) (w : World) (h : RDAt w F sb d) (ha : d.acc < 1000000000) (hc : d.code ≠ 0) :
    Calls Try.prog 26 #[.pointer (some ⟨sb, 0, none⟩)] w (RWriteTo sb d.hit d.code F w) := by
  obtain ⟨tl, wt, pb, tb, wb, pc, tc, wc, hd⟩ := h
  have c5 : w.cell? ⟨sb, 5, none⟩ = some (.bool d.down) := hd.blk.cell 5 _ rfl
  have HD := Lib.hid hd
  cases hdn : d.down with
  | true =>
    have hcd : d.code = 12 := by simp [Dk.code, hdn]
    have hh : d.hit = d := by simp [Dk.hit, hdn]
    rw [hcd, hh]
    rw [hdn] at c5
    have HN := Lib.hid hdn
    clear hd hc hcd hh hdn ha
    go_enter Try.func26, Try.ntmps26
    go_wp2
    go_ret
    exact ⟨rfl, ⟨_, _, _, _, _, _, _, _, HD.out⟩, Fr.refl _ _⟩
  | false =>
    have hf1 : d.fails = 1 := by
      by_cases h1 : d.fails = 1
      · exact h1
      · exact absurd (by simp [Dk.code, hdn, h1]) hc
    have hcd : d.code = 9 := by simp [Dk.code, hdn, hf1]
    rw [hcd]
    have hacc := raccess_any sb _ _ _ d w hd.blk hdn hd.acc0 ha hd.fail0 hd.fail1
    have hb : decide (d.fails ≠ 1) = false := by simp [hf1]
    have HB := Lib.hid hb
    have HA := Lib.hid hacc
    rw [hdn] at c5
    clear hd hc hcd hdn hf1 hacc hb ha
    go_enter Try.func26, Try.ntmps26
    go_wp2_with fail
    refine HA.out.mono ?_
    rintro e w1 ⟨rfl, hb1, hf1⟩
    rw [HB.out]
    go_wp2
    go_ret
    exact ⟨rfl, ⟨_, _, _, _, _, _, _, _, HD.out.hit hb1 hf1⟩, hf1.mono (fun b _ e => e ▸ HD.out.fs)⟩
theorem rsync_fin {w : World} {F : Nat → Prop} {sb : Nat} {d : Dk} {tl : List (List Int)} {wt : List Bool} {pb tb wb pc tc wc : Nat} {w0 : World} (h0 : RDIs w0 F sb d tl wt pb tb wb pc tc wc) (hd : d.down = false)
    (h : RRows w F sb d.pages.length (syncPg d.pages tl d.pages.length) tl (syncWt wt d.pages.length) d.hit.acc d.hit.fails d.down pb tb wb pc tc wc) : RDAt w F sb d.hit.sync := by
  obtain ⟨_, l2, l3⟩ := h0.rows.lens
  have e1 : syncPg d.pages tl d.pages.length = d.hit.sync.pages := by
    simp only [syncPg, List.drop_length, List.append_nil, Dk.sync, Dk.hit_pages]
    rw [← l2, List.take_length, h0.tls hd]
    simp only [List.length_map, List.length_range]
    exact List.map_congr_left (fun i _ => (Dk.hit_get d i).symm)
  have hn : d.hit.sync.pages.length = d.pages.length := by simp [Dk.sync, Dk.hit_pages]
  have e2 : syncWt wt d.pages.length = (List.range d.hit.sync.pages.length).map fun i => (d.hit.sync.waits i).isSome := by
    rw [hn]
    simp only [syncWt, ← l3, List.drop_length, List.append_nil, Dk.sync]
    apply List.ext_getElem <;> simp
  rw [e1] at h
  obtain ⟨a, b, c⟩ := d.hit_bd h0.acc0 h0.fail0 h0.fail1
  refine ⟨tl, syncWt wt d.pages.length, pb, tb, wb, pc, tc, wc, by rw [hn]; have := h.blk; simpa [Dk.sync, Dk.hit_down] using this, by rw [hn]; exact h.safe, by rw [hn]; exact h.tail, by rw [hn]; exact h.wait, h.ne, h.fs, h.fp, h.ft, h.fw, by rw [hn]; exact h0.some_, by rw [hn]; exact h0.few, a, b, c, fun _ => ?_, e2, ?_, ?_⟩
  · rw [hn, h0.tls hd]
    refine List.map_congr_left (fun i hi => ?_)
    have hi' : i < d.pages.length := by simpa using hi
    have : d.hit.sync.get i = d.hit.get i := by
      simp only [Dk.sync, Dk.get, Option.getD_none, List.getD, List.getElem?_map, Dk.hit_pages, List.getElem?_range hi', Option.map_some, Option.getD_some]
    rw [this, Dk.hit_get]
  · intro l hl
    rw [← e1] at hl
    simp only [syncPg, List.drop_length, List.append_nil] at hl
    have hl := List.mem_of_mem_take hl
    rw [h0.tls hd] at hl
    obtain ⟨i, hi, rfl⟩ := List.mem_map.1 hl
    exact Dk.get24 h0 (by simpa using hi)
  · intro i l _ hw; simp [Dk.sync] at hw
theorem rsync_ok (sb : Nat) (d : Dk) (F : Nat → Prop) (w : World) (h : RDAt w F sb d) (ha : d.acc < 1000000000) (hc : d.code = 0) :
    Calls Try.prog 26 #[.pointer (some ⟨sb, 0, none⟩)] w (RWriteTo sb d.hit.sync 0 F w) := by
  obtain ⟨tl, wt, pb, tb, wb, pc, tc, wc, hd⟩ := h
  have c5 : w.cell? ⟨sb, 5, none⟩ = some (.bool d.down) := hd.blk.cell 5 _ rfl
  have hdn : d.down = false := by
    cases hdn : d.down with
    | false => rfl
    | true => simp [Dk.code, hdn] at hc
  have hf1 : d.fails ≠ 1 := by
    intro h1; simp [Dk.code, hdn, h1] at hc
  have hacc := raccess_any sb _ _ _ d w hd.blk hdn hd.acc0 ha hd.fail0 hd.fail1
  have hb : decide (d.fails ≠ 1) = true := by simpa using hf1
  have hfew := hd.few
  have HB := Lib.hid hb
  have HA := Lib.hid hacc
  have HD := Lib.hid hd
  have HN := Lib.hid hdn
  rw [hdn] at c5
  clear hd hc hdn hf1 hacc hb ha
  go_enter Try.func26, Try.ntmps26
  go_wp2_with fail
  refine HA.out.mono ?_
  rintro e w1 ⟨rfl, hb1, hf1⟩
  rw [HB.out]
  have h1 := (HD.out.hit hb1 hf1).rows
  rw [Dk.hit_pages, Dk.hit_down] at h1
  have H1 := Lib.hid h1
  have HF1 := Lib.hid (hf1.mono (F := fun b => b = sb) (G := F) (fun b _ e => e ▸ HD.out.fs))
  clear hb1 hf1 h1
  go_wp2_with fail
  go_loopw [3] (fun i wr => RSyncRel w F sb d tl wt pb tb wb pc tc wc i wr) (fun i _ => d.pages.length - (intOf i).toNat)
  case atStart => exact ⟨0, Nat.zero_le _, rfl, by simpa [syncPg, syncWt] using H1.out, HF1.out⟩
  case round =>
    obtain ⟨k, hk, rfl, hr, hf⟩ := hrel
    have HR := Lib.hid hr
    have HF := Lib.hid hf
    clear hr hf
    obtain ⟨c0, c1, c2, _, _⟩ := HR.out.cells
    by_cases hlt : k < d.pages.length
    · obtain ⟨cp, ct, cw, fp, ft, fw⟩ := HR.out.at_ hlt
      have hk0 : (0 : Int) ≤ (k : Int) := by omega
      have hk1 : (k : Int) < (d.pages.length : Int) := by omega
      obtain ⟨t1, t2, t3, t4, t5⟩ := HR.out.types
      have hpt := HR.out.ne
      have hnext := (HR.out.setSafe k (tl.getD k [])).setWait k false
      obtain ⟨l1, l2, l3⟩ := HD.out.rows.lens
      rw [syncPg_step (by omega) (by omega), syncWt_step (by omega)] at hnext
      have hfr := (HF.out.setCell ⟨pb, k, none⟩ (.string (strOfNums (tl.getD k []))) (.inl HD.out.fp)).setCell ⟨wb, k, none⟩ (.bool false) (.inl HD.out.fw)
      obtain ⟨sp, hsp⟩ : ∃ s, strOfNums ((syncPg d.pages tl k).getD k []) = s := ⟨_, rfl⟩
      obtain ⟨st, hst⟩ : ∃ s, strOfNums (tl.getD k []) = s := ⟨_, rfl⟩
      obtain ⟨bw, hbw⟩ : ∃ b, (syncWt wt k).getD k false = b := ⟨_, rfl⟩
      rw [hsp] at cp
      rw [hst] at ct hnext hfr
      rw [hbw] at cw
      have HNX := Lib.hid hnext
      have HFR := Lib.hid hfr
      clear hnext hfr hsp hst hbw l1 l2 l3
      go_wp2_with fail
      go_region
      all_goals go_wp2
      all_goals exact ⟨⟨k + 1, by omega, by go_num, HNX.out.fr ((Fr.refl (fun _ => False) _).drew) (fun _ _ h => h.elim), HFR.out.drew⟩, by simp [intOf]; omega⟩
    · have hkn : k = d.pages.length := by omega
      subst hkn
      go_wp2
      go_ret
      exact ⟨rfl, rsync_fin HD.out HN.out HR.out, HF.out⟩
end Go.Proofs.Ytcapfahhoijblaa
