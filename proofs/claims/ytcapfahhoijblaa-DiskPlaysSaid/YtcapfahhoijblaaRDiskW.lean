/- The reference's device: Waits, Crash. Conditions: each contract's premises. -/
import Derived.Test.YtcapfahhoijblaaRDiskS
import Derived.Test.YtcapfahhoijblaaCrash
import Derived.Deep.CutRange
import Derived.Deep.QuietTactic
import Derived.BigQuiet
set_option linter.unusedVariables false
set_option linter.unusedSimpArgs false
set_option maxRecDepth 100000
namespace Go.Proofs.Ytcapfahhoijblaa
open Go.RowKit
theorem Try.infoI : (Try.prog.info? 3).map (fun i => (i.zero, i.size, i.bytes)) = some (some (.int .i64 0), 1, 8) := by kernel_rfl
/-- The pages below p that wait. -/
def Dk.waitsTo (d : Dk) (p : Nat) : List Nat := (List.range p).filter fun i => (d.waits i).isSome
theorem waitsTo_all (d : Dk) : d.waitsTo d.pages.length = d.waiting := rfl
theorem waitsTo_succ (d : Dk) (p : Nat) : d.waitsTo (p + 1) = if (d.waits p).isSome then d.waitsTo p ++ [p] else d.waitsTo p := by
  simp only [Dk.waitsTo, List.range_succ, List.filter_append]
  by_cases h : (d.waits p).isSome <;> simp [h]
theorem waitsTo_length (d : Dk) (p : Nat) : (d.waitsTo p).length ≤ p := Nat.le_trans (List.length_filter_le _ _) (by simp)
theorem waiting_split (d : Dk) {p : Nat} (hp : p ≤ d.pages.length) : ∃ r, d.waiting = d.waitsTo p ++ r := by
  have : List.range d.pages.length = List.range p ++ (List.range (d.pages.length - p)).map (p + ·) := by
    rw [← List.range_add]; congr 1; omega
  refine ⟨((List.range (d.pages.length - p)).map (p + ·)).filter fun i => (d.waits i).isSome, ?_⟩
  rw [Dk.waiting, this, List.filter_append]; rfl
theorem waiting_at (d : Dk) {p : Nat} (hp : p < d.pages.length) (hw : (d.waits p).isSome = true) : d.waiting[(d.waitsTo p).length]? = some p := by
  obtain ⟨r, hr⟩ := waiting_split d (p := p + 1) hp
  rw [waitsTo_succ, if_pos hw] at hr
  rw [hr, List.append_assoc, List.getElem?_append_right (Nat.le_refl _)]
  simp
def zs (l : List Nat) : List Value := l.map fun (p : Nat) => Value.int .i64 (p : Int)
theorem zs_waits (d : Dk) : zs d.waiting = d.waitsZ.map (Value.int .i64) := by simp [zs, Dk.waitsZ, Function.comp_def]
def RWaitsTo (sb : Nat) (d : Dk) (F : Nat → Prop) (w : World) (e : Ending) (w' : World) : Prop :=
  ∃ v, e = .returned v ∧ w'.ownsRow w.heap.size 3 1 v d.waiting.length (d.waitsZ.map (Value.int .i64)) ∧ Below w.heap.size w w'
def RWaitsRel (d : Dk) (w : World) (lv i : Value) (wr : World) : Prop :=
  ∃ k : Nat, k ≤ d.pages.length ∧ i = .int .i64 k ∧ wr.ownsRow w.heap.size 3 1 lv (d.waitsTo k).length (zs (d.waitsTo k)) ∧ Below w.heap.size w wr
theorem rwaits_any (sb : Nat) (d : Dk) (F : Nat → Prop) (w : World) (h : RDAt w F sb d) : Calls Try.prog 35 #[.pointer (some ⟨sb, 0, none⟩)] w (RWaitsTo sb d F w) := by
  obtain ⟨tl, wt, pb, tb, wb, pc, tc, wc, hd⟩ := h
  have HD := Lib.hid hd
  have hfew := hd.few
  clear hd
  go_enter Try.func35, Try.ntmps35
  go_wp2_with fail
  go_loopw [3, 4] (fun lv i wr => RWaitsRel d w lv i wr) (fun _ i _ => d.pages.length - (intOf i).toNat)
  case atStart => exact ⟨0, Nat.zero_le _, rfl, World.ownsRow_nil w _ _ _, Below.refl _ _⟩
  case round =>
    obtain ⟨k, hk, rfl, ho, hb⟩ := hrel
    have HR := Lib.hid ((HD.out.rows).fr (Fr.of_below hb (fun _ => False)) (fun _ _ h => h.elim))
    have HO := Lib.hid ho
    have HB := Lib.hid hb
    have hsz := hb.size
    clear ho hb
    obtain ⟨c0, c1, c2, _, _⟩ := HR.out.cells
    by_cases hlt : k < d.pages.length
    · obtain ⟨_, _, cw, _, _, _⟩ := HR.out.at_ hlt
      have hk0 : (0 : Int) ≤ (k : Int) := by omega
      have hk1 : (k : Int) < (d.pages.length : Int) := by omega
      have hwk : wt.getD k false = (d.waits k).isSome := by rw [HD.out.wts]; simp [List.getD, hlt]
      rw [hwk] at cw
      have hsu := waitsTo_succ d k
      have hlen := waitsTo_length d k
      cases hw : (d.waits k).isSome with
      | false =>
        rw [hw] at cw hsu
        have HSU := Lib.hid hsu
        clear hw hwk hsu
        go_wp2_with fail
        exact ⟨⟨k + 1, by omega, by go_num, by rw [HSU.out]; exact HO.out, HB.out⟩, by simp [intOf]; omega⟩
      | true =>
        rw [hw] at cw hsu
        have HSU := Lib.hid hsu
        clear hw hwk hsu
        go_wp2_with (at_builtin; refine wpList_ap1 w.heap.size rfl (.tmp 21) (.tmp 23) 23 3 (.int .i64 0) 1 8 rfl Try.underlying23 Try.infoI rfl (by omega) _ _ _ (by rfl) HO.out [.int .i64 k] _ (by rfl) rfl rfl (by simp [Value.oneCell']) (by omega) (by omega) hsz ?_; intro g cap w1 ho hg hat)
        have hb1 := HB.out.grown hg hsz (fun b hb => own_ge HO.out b hb)
        refine ⟨⟨k + 1, by omega, by go_num, ?_, hb1⟩, by simp [intOf]; omega⟩
        rw [HSU.out, if_pos rfl]
        simpa [zs] using ho
    · have hkn : k = d.pages.length := by omega
      subst hkn
      have ho := HO.out
      rw [waitsTo_all, zs_waits] at ho
      have HO' := Lib.hid ho
      clear ho
      go_wp2
      go_ret
      exact ⟨_, rfl, HO'.out, HB.out⟩
theorem rcrash_down (sb : Nat) (d : Dk) (v : Value) (F : Nat → Prop) (w : World) (h : RDAt w F sb d) (hd : d.down = true) : Calls Try.prog 30 #[.pointer (some ⟨sb, 0, none⟩), v] w fun e w' => e = .returned (.bool false) ∧ w = w' := by
  obtain ⟨tl, wt, pb, tb, wb, pc, tc, wc, h⟩ := h
  have c5 : w.cell? ⟨sb, 5, none⟩ = some (.bool true) := by rw [← hd]; exact h.blk.cell 5 _ rfl
  clear h hd
  go_enter Try.func30, Try.ntmps30
  go_wp2
  go_ret
  exact ⟨rfl, rfl⟩
def RCrashRel (sb : Nat) (d : Dk) (bits : List Int) (F : Nat → Prop) (tl : List (List Int)) (wt : List Bool) (pb tb wb pc tc wc : Nat) (w : World) (k i : Value) (wr : World) : Prop :=
  ∃ p : Nat, p ≤ d.pages.length ∧ i = .int .i64 p ∧ k = .int .i64 (d.waitsTo p).length ∧ RRows wr F sb d.pages.length (d.crashAt bits (d.waitsTo p).length) tl (syncWt wt p) d.acc d.fails false pb tb wb pc tc wc ∧ Fr F w wr
theorem and3w : ∀ x : Nat, x < 256 → Go.bits .and .i64 (x : Int) 3 = (x : Int) % 4 := by decide +kernel
theorem and4 (bx : Int) (h0 : 0 ≤ bx) (h1 : bx ≤ 255) (k : Nat) : Go.bits BinOp.and IntKind.i64 (bx / 2 ^ (2 * k)) 3 = (bx / 4 ^ k) % 4 := by
  have he : (2 : Int) ^ (2 * k) = 4 ^ k := by rw [Int.pow_mul]; rfl
  rw [he]
  have hpos : (0 : Int) < 4 ^ k := Int.pow_pos (by omega)
  have h2 : 0 ≤ bx / 4 ^ k := Int.ediv_nonneg h0 (by omega)
  have h3 : bx / 4 ^ k ≤ bx := Int.ediv_le_self _ h0
  generalize bx / 4 ^ k = y at h2 h3
  obtain ⟨m, rfl⟩ := Int.eq_ofNat_of_zero_le h2
  exact and3w m (by omega)
theorem str_front (l : List Int) (h : l.length = 24) : (strOfNums l).extract 0 12 = strOfNums (l.take 12) := by
  apply ByteArray.ext
  simp only [strOfNums, ByteArray.data_extract, List.extract_toArray, List.map_take]
  simp [List.extract]
theorem str_back (l : List Int) (h : l.length = 24) : (strOfNums l).extract 12 24 = strOfNums (l.drop 12) := by
  apply ByteArray.ext
  simp only [strOfNums, ByteArray.data_extract, List.extract_toArray, List.map_drop]
  simp only [List.extract]
  rw [List.take_of_length_le (by simp; omega)]
theorem str_app (a b : List Int) : strOfNums a ++ strOfNums b = strOfNums (a ++ b) := by
  apply ByteArray.ext
  simp [strOfNums, ByteArray.data_append]
def RCrashTo (sb : Nat) (d : Dk) (bits : List Int) (F : Nat → Prop) (w : World) (e : Ending) (w' : World) : Prop := e = .returned (.bool true) ∧ RDAt w' F sb (d.crash bits) ∧ Fr F w w'
theorem tear24 {q : Int} {a b : List Int} (ha : a.length = 24) (hb : b.length = 24) : (tear q a b).length = 24 := by
  unfold tear; repeat' split
  all_goals simp [ha, hb]
theorem crash24 {w : World} {F : Nat → Prop} {sb : Nat} {d : Dk} {tl : List (List Int)} {wt : List Bool} {pb tb wb pc tc wc : Nat} (h : RDIs w F sb d tl wt pb tb wb pc tc wc) (bits : List Int) (j : Nat) {p : Nat} (hp : p < d.pages.length) : ((d.crashAt bits j).getD p []).length = 24 := by
  have key : ∀ l ∈ d.crashAt bits j, l.length = 24 := by
    induction j with
    | zero => exact h.l24
    | succ j ih =>
      simp only [Dk.crashAt]
      split
      · rename_i q hq
        intro l hl
        rcases List.mem_or_eq_of_mem_set hl with hl | rfl
        · exact ih l hl
        · have hm := mem_waiting.1 (List.mem_of_getElem? hq)
          obtain ⟨l', hl'⟩ := Option.isSome_iff_exists.1 hm.2
          refine tear24 ?_ (by rw [hl']; exact h.t24 q l' hm.1 hl')
          have hlt : q < (d.crashAt bits j).length := by rw [Dk.crashAt_length]; exact hm.1
          simp only [List.getD, List.getElem?_eq_getElem hlt, Option.getD_some]
          exact ih _ (List.getElem_mem hlt)
      · exact ih
  have hlt : p < (d.crashAt bits j).length := by rw [Dk.crashAt_length]; exact hp
  simp only [List.getD, List.getElem?_eq_getElem hlt, Option.getD_some]
  exact key _ (List.getElem_mem hlt)
theorem set_same {α : Type} (l : List α) (i : Nat) (a : α) (d : α) (h : l.getD i d = a) : l.set i a = l := by
  apply List.ext_getElem (by simp)
  intro k h1 h2
  rw [List.getElem_set]
  split
  · subst_vars; simp [List.getD, List.getElem?_eq_getElem h2]
  · rfl
theorem rcrash_set {sb : Nat} {d : Dk} {bits : List Int} {F : Nat → Prop} {tl : List (List Int)} {wt : List Bool} {pb tb wb pc tc wc j p : Nat} {w W : World} {x : List Int} {s : ByteArray}
    (h : RRows W F sb d.pages.length (d.crashAt bits j) tl (syncWt wt p) d.acc d.fails false pb tb wb pc tc wc) (hf : Fr F w W) (hlt : p < d.pages.length) (hsc : d.crashAt bits (j + 1) = (d.crashAt bits j).set p x) (hsu : (d.waitsTo (p + 1)).length = j + 1) (hs : strOfNums x = s) :
    RCrashRel sb d bits F tl wt pb tb wb pc tc wc w (.int .i64 ((j : Int) + 1)) (.int .i64 ((p : Int) + 1)) ((W.setCell ⟨pb, p, none⟩ (.string s)).setCell ⟨wb, p, none⟩ (.bool false)) := by
  subst hs
  have h2 := (h.setSafe p x).setWait p false
  rw [syncWt_step (by have := h.lens.2.2; simp [syncWt] at this; omega), ← hsc] at h2
  exact ⟨p + 1, hlt, by simp, by rw [hsu]; simp, by rw [hsu]; exact h2, (hf.setCell ⟨pb, p, none⟩ _ (.inl h.fp)).setCell ⟨wb, p, none⟩ _ (.inl h.fw)⟩
theorem rcrash_keep {sb : Nat} {d : Dk} {bits : List Int} {F : Nat → Prop} {tl : List (List Int)} {wt : List Bool} {pb tb wb pc tc wc j p : Nat} {w W : World}
    (h : RRows W F sb d.pages.length (d.crashAt bits j) tl (syncWt wt p) d.acc d.fails false pb tb wb pc tc wc) (hf : Fr F w W) (hlt : p < d.pages.length) (hsc : d.crashAt bits (j + 1) = d.crashAt bits j) (hsu : (d.waitsTo (p + 1)).length = j + 1) :
    RCrashRel sb d bits F tl wt pb tb wb pc tc wc w (.int .i64 ((j : Int) + 1)) (.int .i64 ((p : Int) + 1)) (W.setCell ⟨wb, p, none⟩ (.bool false)) := by
  have h2 := h.setWait p false
  rw [syncWt_step (by have := h.lens.2.2; simp [syncWt] at this; omega), ← hsc] at h2
  exact ⟨p + 1, hlt, by simp, by rw [hsu]; simp, by rw [hsu]; exact h2, hf.setCell ⟨wb, p, none⟩ _ (.inl h.fw)⟩
theorem RRows.drewN {w : World} {F : Nat → Prop} {sb n : Nat} {pg tl : List (List Int)} {wt : List Bool} {acc fails : Int} {down : Bool} {pb tb wb pc tc wc : Nat} (h : RRows w F sb n pg tl wt acc fails down pb tb wb pc tc wc) (k : Nat) : RRows (w.drewN k) F sb n pg tl wt acc fails down pb tb wb pc tc wc :=
  h.fr ((Fr.refl (fun _ => False) w).drewN k) (fun _ _ h => h.elim)
theorem rcrash_fin {w W : World} {F : Nat → Prop} {sb : Nat} {d : Dk} {bits : List Int} {tl : List (List Int)} {wt : List Bool} {pb tb wb pc tc wc : Nat} (h0 : RDIs w F sb d tl wt pb tb wb pc tc wc) (hd : d.down = false)
    (h : RRows W F sb d.pages.length (d.crashAt bits (d.waitsTo d.pages.length).length) tl (syncWt wt d.pages.length) d.acc d.fails false pb tb wb pc tc wc) : RDAt (W.setCell ⟨sb, 5, none⟩ (.bool true)) F sb (d.crash bits) := by
  have h2 := h.setDown true
  rw [waitsTo_all] at h2
  have hc : d.crash bits = { d with down := true, pages := d.crashAt bits d.waiting.length, waits := fun _ => none } := by simp [Dk.crash, hd]
  have hn := d.crashAt_length bits d.waiting.length
  rw [hc]
  have e2 : syncWt wt d.pages.length = (List.range d.pages.length).map fun _ => false := by
    rw [h0.wts]
    apply List.ext_getElem
    · simp [syncWt]
    · intro i h1 h2
      simp only [List.length_map, List.length_range] at h2
      simp [syncWt, List.getElem_append, List.getElem_replicate] at h1 ⊢
      intro hle; omega
  refine ⟨tl, syncWt wt d.pages.length, pb, tb, wb, pc, tc, wc, by show Blk _ _ _ _; rw [hn]; exact h2.blk, by show World.ownsRow _ _ _ _ _ _ _; rw [hn]; exact h2.safe, by show World.ownsRow _ _ _ _ _ _ _; rw [hn]; exact h2.tail, by show World.ownsRow _ _ _ _ _ _ _; rw [hn]; exact h2.wait, h.ne, h.fs, h.fp, h.ft, h.fw, by show 0 < _; rw [hn]; exact h0.some_, by show _ ≤ 48; rw [hn]; exact h0.few, h0.acc0, h0.fail0, h0.fail1, (fun h => by cases h), ?_, ?_, ?_⟩
  · show _ = (List.range (d.crashAt bits d.waiting.length).length).map _
    rw [hn, e2]; simp
  · intro l hl
    obtain ⟨i, hi, rfl⟩ := List.getElem_of_mem hl
    have := crash24 h0 bits d.waiting.length (p := i) (by rw [← hn]; exact hi)
    simpa [List.getD, List.getElem?_eq_getElem hi] using this
  · intro i l _ hw; cases hw
set_option maxHeartbeats 2000000 in
theorem rcrash_any (sb : Nat) (d : Dk) (bits : List Int) (A : Option Addr) (n c : Nat) (F : Nat → Prop) (w : World) (h : RDAt w F sb d) (hd : d.down = false) (hn : bits.length = n) (hn2 : n ≤ 1000000)
    (hbits : ∀ i, i < n → ∃ bb bo, A = some ⟨bb, bo, none⟩ ∧ w.cell? ⟨bb, bo + i, none⟩ = some (.int .u8 (bits.getD i 0)) ∧ ¬ F bb)
    (hbyte : ∀ i, 0 ≤ bits.getD i 0 ∧ bits.getD i 0 ≤ 255) :
    Calls Try.prog 30 #[.pointer (some ⟨sb, 0, none⟩), .slice A n c] w (RCrashTo sb d bits F w) := by
  obtain ⟨tl, wt, pb, tb, wb, pc, tc, wc, hd0⟩ := h
  have hr0 := hd0.rows
  rw [hd] at hr0
  have c5 : w.cell? ⟨sb, 5, none⟩ = some (.bool false) := hr0.cells.2.2.2.1
  have hfew := hd0.few
  have HR0 := Lib.hid hr0
  have HD := Lib.hid hd0
  have HN := Lib.hid hd
  have HB := Lib.hid hbits
  have HL := Lib.hid hn
  clear hd0 hd hr0 hbits hn
  go_enter Try.func30, Try.ntmps30
  go_wp2_with fail
  go_loopw [5, 6] (fun k i wr => RCrashRel sb d bits F tl wt pb tb wb pc tc wc w k i wr) (fun _ i _ => d.pages.length - (intOf i).toNat)
  case atStart => exact ⟨0, Nat.zero_le _, rfl, rfl, HR0.out, Fr.refl _ _⟩
  case round =>
    obtain ⟨p, hp, rfl, rfl, hr, hf⟩ := hrel
    have HR := Lib.hid hr
    have HF := Lib.hid hf
    clear hr hf
    obtain ⟨c0, c1, c2, c5, f5⟩ := HR.out.cells
    by_cases hlt : p < d.pages.length
    · obtain ⟨cp, ct, cw, fp, ft, fw⟩ := HR.out.at_ hlt
      have hk0 : (0 : Int) ≤ (p : Int) := by omega
      have hk1 : (p : Int) < (d.pages.length : Int) := by omega
      obtain ⟨t1, t2, t3, t4, t5⟩ := HR.out.types
      have hpt := HR.out.ne
      have hwk : (syncWt wt p).getD p false = (d.waits p).isSome := by
        rw [HD.out.wts]
        simp [syncWt, List.getD, List.getElem?_append_right, hlt]
      rw [hwk] at cw
      cases hw : d.waits p with
      | none =>
        rw [hw] at cw
        have hsu : d.waitsTo (p + 1) = d.waitsTo p := by rw [waitsTo_succ, hw]; rfl
        have hsw : syncWt wt (p + 1) = syncWt wt p := by
          have h1 := syncWt_step (wt := wt) (k := p) (by rw [HD.out.wts]; simpa using hlt)
          rw [← h1]
          refine List.ext_getElem (by simp) (fun i h1 h2 => ?_)
          rw [List.getElem_set]
          split
          · subst_vars
            have h3 := hwk
            rw [hw] at h3
            simp only [List.getD, List.getElem?_eq_getElem h2, Option.getD_some, Option.isSome_none] at h3
            exact h3.symm
          · rfl
        have HSU := Lib.hid hsu
        have HSW := Lib.hid hsw
        clear hwk hsu hsw hw
        go_wp2_with fail
        exact ⟨⟨p + 1, by omega, by go_num, by rw [HSU.out], by rw [HSU.out, HSW.out]; exact HR.out, HF.out⟩, by simp [intOf]; omega⟩
      | some l =>
        rw [hw] at cw
        have HW := Lib.hid hw
        have hlen := waitsTo_length d p
        have hj : d.waiting[(d.waitsTo p).length]? = some p := waiting_at d hlt (by rw [hw]; rfl)
        have hsucc := crashAt_succ (bits := bits) hj hw
        have hsu : (d.waitsTo (p + 1)).length = (d.waitsTo p).length + 1 := by rw [waitsTo_succ, hw]; simp
        have htl : tl.getD p [] = l := by
          rw [HD.out.tls HN.out]
          simp [List.getD, hlt, Dk.get, hw]
        have hl24 := HD.out.t24 p l hlt hw
        rw [htl] at ct
        generalize hje : (d.waitsTo p).length = j at *
        obtain ⟨la, hla⟩ : ∃ la, (d.crashAt bits j).getD p [] = la := ⟨_, rfl⟩
        rw [hla] at cp hsucc
        obtain ⟨sa, hsa⟩ : ∃ s, strOfNums la = s := ⟨_, rfl⟩
        obtain ⟨sl, hsl⟩ : ∃ s, strOfNums l = s := ⟨_, rfl⟩
        rw [hsa] at cp
        rw [hsl] at ct
        have hla24 : la.length = 24 := by
          rw [← hla]
          exact crash24 HD.out bits j hlt
        have zl1 : sl.size = 24 := by rw [← hsl, strOfNums_size, hl24]
        have za1 : sa.size = 24 := by rw [← hsa, strOfNums_size, hla24]
        have HLA := Lib.hid hla24
        have HLAE := Lib.hid hla
        clear hla24
        have HSU := Lib.hid hsu
        have HSC := Lib.hid hsucc
        have HL24 := Lib.hid hl24
        have HSA := Lib.hid hsa
        have HSL := Lib.hid hsl
        have HJE := Lib.hid hje
        clear hwk hw hj hsucc hsu htl hl24 hsa hsl hla hje
        by_cases hb : j / 4 < n
        · obtain ⟨bb, bo, rfl, hcb, hbb⟩ := HB.out (j / 4) hb
          have hcb2 := cell_fr hcb HF.out hbb
          generalize hx : bits.getD (j / 4) 0 = bx at hcb2
          have hq : (j : Int) / 4 < (n : Int) := by omega
          have HQ := Lib.hid hx
          clear hx hcb hbb
          have hb0 : 0 ≤ bx := by rw [← HQ.out]; exact (hbyte _).1
          have hb1 : bx ≤ 255 := by rw [← HQ.out]; exact (hbyte _).2
          have hsb := and4 bx hb0 hb1 (j % 4)
          have hwh : what bits j = (bx / 4 ^ (j % 4)) % 4 := by unfold what; rw [HL.out, if_pos hb, HQ.out]
          rw [← hwh] at hsb
          have hrange : what bits j = 0 ∨ what bits j = 1 ∨ what bits j = 2 ∨ what bits j = 3 := by rw [hwh]; omega
          rcases hrange with hq0 | hq0 | hq0 | hq0 <;> rw [hq0] at hsb
          · have HQ0 := Lib.hid hq0
            clear hq0 hwh
            go_wp2_with fail
            go_quiet (fail)
            go_wp2_with fail
            exact ⟨rcrash_keep (HR.out.drewN _) (HF.out.drewN _) hlt (by rw [HSC.out, HQ0.out]; exact set_same _ _ _ [] HLAE.out) HSU.out, by simp [intOf]; omega⟩
          · have HQ0 := Lib.hid hq0
            clear hq0 hwh
            go_wp2_with fail
            go_quiet (fail)
            go_wp2_with fail
            exact ⟨rcrash_set (HR.out.drewN _) (HF.out.drewN _) hlt (by rw [HSC.out, HQ0.out]; rfl) HSU.out HSL.out, by simp [intOf]; omega⟩
          · have HQ0 := Lib.hid hq0
            clear hq0 hwh
            go_wp2_with fail
            go_quiet (fail)
            go_wp2_with fail
            go_region
            all_goals go_wp2_with fail
            all_goals exact ⟨rcrash_set (HR.out.drewN _) (HF.out.drewN _) hlt (by rw [HSC.out, HQ0.out]; rfl) HSU.out (x := l.take 12 ++ la.drop 12) (by rw [← HSL.out, ← HSA.out, str_front _ HL24.out, str_back _ HLA.out, str_app]), by simp [intOf]; omega⟩
          · have HQ0 := Lib.hid hq0
            clear hq0 hwh
            go_wp2_with fail
            go_quiet (fail)
            go_wp2_with fail
            go_region
            all_goals go_wp2_with fail
            all_goals exact ⟨rcrash_set (HR.out.drewN _) (HF.out.drewN _) hlt (by rw [HSC.out, HQ0.out]; rfl) HSU.out (x := la.take 12 ++ l.drop 12) (by rw [← HSL.out, ← HSA.out, str_front _ HLA.out, str_back _ HL24.out, str_app]), by simp [intOf]; omega⟩
        · have hq : ¬ (j : Int) / 4 < (n : Int) := by omega
          have hwh : what bits j = 0 := by unfold what; rw [HL.out, if_neg hb]
          have HQ0 := Lib.hid hwh
          clear hwh
          go_wp2_with fail
          go_quiet (fail)
          go_wp2_with fail
          exact ⟨rcrash_keep (HR.out.drewN _) (HF.out.drewN _) hlt (by rw [HSC.out, HQ0.out]; exact set_same _ _ _ [] HLAE.out) HSU.out, by simp [intOf]; omega⟩
    · have hpn : p = d.pages.length := by omega
      subst hpn
      go_wp2
      go_ret
      exact ⟨rfl, rcrash_fin HD.out HN.out HR.out, HF.out.setCell _ _ (.inl HD.out.fs)⟩
end Go.Proofs.Ytcapfahhoijblaa
