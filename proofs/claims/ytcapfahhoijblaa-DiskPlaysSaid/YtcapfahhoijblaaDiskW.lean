/- Write of package disk's device. Conditions: each contract's premises. -/
import Derived.Test.YtcapfahhoijblaaDiskRw
set_option linter.unusedVariables false
set_option linter.unusedSimpArgs false
set_option maxRecDepth 100000
namespace Go.Proofs.Ytcapfahhoijblaa
open Go.RowKit

theorem Fr.setObj {F : Nat → Prop} {a w : World} (h : Fr F a w) (mb : Nat) (o : Obj) (hp : F mb ∨ a.heap.size ≤ mb) : Fr F a { w with heap := w.heap.setIfInBounds mb o } :=
  ⟨h.os, h.tape, h.output, Nat.le_trans h.size (by simp), fun k hk hn => by
    have hne : mb ≠ k := fun e => by subst e; rcases hp with hp | hp; exact hn hp; omega
    simp only [Array.getElem?_setIfInBounds]
    rw [if_neg hne]
    exact h.block k hk hn⟩
theorem setObj_at {w : World} {mb : Nat} (hm : mb < w.heap.size) (o : Obj) : ({ w with heap := w.heap.setIfInBounds mb o } : World).heap[mb]? = some o := by
  simp [Array.getElem?_setIfInBounds, hm]
def upd (wt : Nat → Option (List Int)) (p : Nat) (l : List Int) : Nat → Option (List Int) := fun q => if q = p then some l else wt q
def Dk.put (d : Dk) (p : Nat) (l : List Int) : Dk := { d with waits := upd d.waits p l }
/-- The store into the map. -/
theorem put_map {w : World} {F : Nat → Prop} {mb n : Nat} {wt : Nat → Option (List Int)} {es : Array MapEntry} {clock : Nat} (h : MapIs w F mb n wt es clock) {p : Nat} (hp : p < n) {v : Value} {l : List Int} (hv : Img w F v l) :
    ∃ es' clock' w', (Instr.mapUpdate 99 (.map (some mb)) (.int .i64 (p : Int)) v).run Try.prog w = .ok () w' ∧ MapIs w' F mb n (upd wt p l) es' clock' ∧ Fr (fun b => b = mb) w w' := by
  have hI : ∀ (o : Obj) (v : Value) (l : List Int), Img w F v l → Img { w with heap := w.heap.setIfInBounds mb o } F v l := fun o v l hi =>
    hi.fr ((Fr.refl (fun b => b = mb) w).setObj mb o (.inl rfl)) (own_row_map hi.1 h.heap)
  have hlt := heap_lt h.heap
  cases hw : wt p with
  | none =>
    have hn := h.none_ hw
    refine ⟨es.push { key := .int .i64 (p : Int), val := v, born := clock }, clock + 1, _, run_update_none Try.underlying99 Try.underlying3 h.heap h.ints hn v, ?_, (Fr.refl _ w).setObj mb _ (.inl rfl)⟩
    refine { heap := setObj_at hlt _, ent := ?_, has := ?_, keys := ?_, born := ?_, old := ?_ }
    · intro e he
      rw [Array.toList_push] at he
      rcases List.mem_append.1 he with he | he
      · obtain ⟨q, l', h1, h2, h3, h4⟩ := h.ent e he
        refine ⟨q, l', h1, h2, hI _ _ _ h3, ?_⟩
        have : q ≠ p := by rintro rfl; rw [hw] at h4; cases h4
        simp [upd, this, h4]
      · simp only [List.mem_singleton] at he; subst he
        exact ⟨p, l, hp, rfl, hI _ _ _ hv, by simp [upd]⟩
    · intro q l' hq
      by_cases e : q = p
      · subst e; exact ⟨_, by rw [Array.toList_push]; exact List.mem_append_right _ (List.mem_singleton.2 rfl), rfl⟩
      · obtain ⟨x, hx, hk⟩ := h.has q l' (by simpa [upd, e] using hq)
        exact ⟨x, by rw [Array.toList_push]; exact List.mem_append_left _ hx, hk⟩
    · rw [Array.toList_push, List.pairwise_append]
      exact ⟨h.keys, by simp, fun a ha b hb => by simp only [List.mem_singleton] at hb; subst hb; exact hn a ha⟩
    · rw [Array.toList_push, List.pairwise_append]
      exact ⟨h.born, by simp, fun a ha b hb => by simp only [List.mem_singleton] at hb; subst hb; exact h.old a ha⟩
    · intro e he
      rw [Array.toList_push] at he
      rcases List.mem_append.1 he with he | he
      · have := h.old e he; omega
      · simp only [List.mem_singleton] at he; subst he; exact Nat.lt_succ_self _
  | some l0 =>
    obtain ⟨x, hx, hk, _⟩ := h.some_ hw
    obtain ⟨j, hj, hrun⟩ := run_update_some (P := Try.prog) Try.underlying99 Try.underlying3 h.heap h.ints h.keys hx hk v
    have hkeys : (es.modify j fun y => { y with key := .int .i64 (p : Int), val := v }).toList.map (·.key) = es.toList.map (·.key) := by
      apply List.ext_getElem?
      intro i
      simp only [List.getElem?_map, Array.getElem?_toList, Array.getElem?_modify]
      by_cases e : j = i
      · subst e; simp [hj, hk]
      · simp [e]
    have hborns : (es.modify j fun y => { y with key := .int .i64 (p : Int), val := v }).toList.map (·.born) = es.toList.map (·.born) := by
      apply List.ext_getElem?
      intro i
      simp only [List.getElem?_map, Array.getElem?_toList, Array.getElem?_modify]
      by_cases e : j = i
      · subst e; simp [hj]
      · simp [e]
    have hmem : ∀ e ∈ (es.modify j fun y => { y with key := .int .i64 (p : Int), val := v }).toList, (e.key = .int .i64 (p : Int) ∧ e.val = v ∧ e.born = x.born) ∨ (e ∈ es.toList ∧ e.key ≠ .int .i64 (p : Int)) := by
      intro e he
      obtain ⟨i, hi⟩ := List.mem_iff_getElem?.1 he
      simp only [Array.getElem?_toList, Array.getElem?_modify] at hi
      by_cases eq : j = i
      · subst eq; rw [if_pos rfl, hj] at hi
        left; simp at hi; subst hi; exact ⟨rfl, rfl, rfl⟩
      · rw [if_neg eq] at hi
        right
        refine ⟨List.mem_iff_getElem?.2 ⟨i, by simpa using hi⟩, fun hke => ?_⟩
        have hpw := List.pairwise_iff_getElem.1 h.keys
        have hi' := Array.getElem?_eq_some_iff.1 hi
        have hj' := Array.getElem?_eq_some_iff.1 hj
        obtain ⟨hi1, hi2⟩ := hi'
        obtain ⟨hj1, hj2⟩ := hj'
        rcases Nat.lt_or_gt_of_ne eq with hlt | hlt
        · exact hpw j i (by simpa using hj1) (by simpa using hi1) hlt (by simp only [Array.getElem_toList]; rw [hj2, hi2, hk, hke])
        · exact hpw i j (by simpa using hi1) (by simpa using hj1) hlt (by simp only [Array.getElem_toList]; rw [hj2, hi2, hk, hke])
    refine ⟨es.modify j fun y => { y with key := .int .i64 (p : Int), val := v }, clock, _, hrun, ?_, (Fr.refl _ w).setObj mb _ (.inl rfl)⟩
    refine { heap := setObj_at hlt _, ent := ?_, has := ?_, keys := ?_, born := ?_, old := ?_ }
    · intro e he
      rcases hmem e he with ⟨h1, h2, _⟩ | ⟨h1, h2⟩
      · exact ⟨p, l, hp, h1, by rw [h2]; exact hI _ _ _ hv, by simp [upd]⟩
      · obtain ⟨q, l', g1, g2, g3, g4⟩ := h.ent e h1
        refine ⟨q, l', g1, g2, hI _ _ _ g3, ?_⟩
        have : q ≠ p := by rintro rfl; exact h2 g2
        simp [upd, this, g4]
    · intro q l' hq
      have hq' : ∃ e ∈ es.toList, e.key = .int .i64 (q : Int) := by
        by_cases e : q = p
        · subst e; exact ⟨x, hx, hk⟩
        · exact h.has q l' (by simpa [upd, e] using hq)
      obtain ⟨e, he, hke⟩ := hq'
      have : Value.int .i64 (q : Int) ∈ es.toList.map (·.key) := List.mem_map.2 ⟨e, he, hke⟩
      rw [← hkeys] at this
      obtain ⟨e', he', hke'⟩ := List.mem_map.1 this
      exact ⟨e', he', hke'⟩
    · have := (List.pairwise_map (f := fun y : MapEntry => y.key) (R := fun a b => a ≠ b)).2 h.keys
      rw [← hkeys] at this
      exact List.pairwise_map.1 this
    · have := (List.pairwise_map (f := fun y : MapEntry => y.born) (R := fun a b => a < b)).2 h.born
      rw [← hborns] at this
      exact List.pairwise_map.1 this
    · intro e he
      rcases hmem e he with ⟨_, _, h3⟩ | ⟨h1, _⟩
      · rw [h3]; exact h.old x hx
      · exact h.old e h1
theorem DiskIs.put {w : World} {F : Nat → Prop} {sb : Nat} {d : Dk} {pb cap mb : Nat} {xs : List Value} {es : Array MapEntry} {clock : Nat} (h : DiskIs w F sb d pb cap mb xs es clock) {p : Nat} (hp : p < d.pages.length) {v : Value} {l : List Int} (hv : Img w F v l) :
    ∃ es' clock' w', (Instr.mapUpdate 99 (.map (some mb)) (.int .i64 (p : Int)) v).run Try.prog w = .ok () w' ∧ DiskIs w' F sb (d.put p l) pb cap mb xs es' clock' ∧ Fr (fun b => b = mb) w w' := by
  obtain ⟨es', clock', w', hr, hm, hf⟩ := put_map h.map hp hv
  refine ⟨es', clock', w', hr, ?_, hf⟩
  refine { blk := h.blk.fr hf (blk_map_ne h.blk h.map.heap), own := own_fr h.own hf (own_row_map h.own h.map.heap), img := fun i l hi => ?_, map := hm, fs := h.fs, fp := h.fp, fm := h.fm, some_ := h.some_, few := h.few, acc0 := h.acc0, fail0 := h.fail0, fail1 := h.fail1 }
  obtain ⟨v, hv, hv2⟩ := h.img i l hi
  exact ⟨v, hv, hv2.fr hf (own_row_map hv2.1 h.map.heap)⟩

/-! ### Write -/
def WriteNo (sb : Nat) (d : Dk) (c : Int) (F : Nat → Prop) (w : World) (e : Ending) (w' : World) : Prop :=
  e = .returned (.int .i64 c) ∧ DiskAt w' F sb d ∧ Fr (fun b => b = sb) w w'
def WriteOk (sb : Nat) (d : Dk) (p : Nat) (l : List Int) (F : Nat → Prop) (w : World) (e : Ending) (w' : World) : Prop :=
  e = .returned (.int .i64 0) ∧ DiskAt w' (fun b => F b ∨ w.heap.size ≤ b) sb (d.hit.put p l) ∧ Fr F w w'
theorem write_arg (sb : Nat) (d : Dk) (p : Int) (A : Option Addr) (n c : Nat) (F : Nat → Prop) (w : World) (h : DiskAt w F sb d) (hp : p < 0 ∨ d.pages.length ≤ p ∨ n ≠ 24) :
    Calls Try.prog 22 #[.pointer (some ⟨sb, 0, none⟩), .int .i64 p, .slice A n c] w (WriteNo sb d 1 F w) := by
  have H := Lib.hid h
  obtain ⟨pb, cap, mb, xs, es, clock, hd⟩ := h
  have c0 : w.cell? ⟨sb, 0, none⟩ = some (.slice (some ⟨pb, 0, none⟩) d.pages.length cap) := hd.blk.cell 0 _ rfl
  clear hd
  by_cases hn : p < 0 ∨ d.pages.length ≤ p
  · have hk : (decide (0 ≤ p) && decide (p < d.pages.length)) = false := by simp; omega
    have HK := Lib.hid hk
    clear hk hp hn
    go_enter Try.func22, Try.ntmps22
    go_wp2_with (go_at_call 60; refine (has_any _ _ _ _ _ _ c0).mono ?_; rintro e w' ⟨rfl, rfl⟩; rw [HK.out])
    go_ret
    exact ⟨rfl, H.out, Fr.refl _ _⟩
  · have hk : (decide (0 ≤ p) && decide (p < d.pages.length)) = true := by simp; omega
    have hn2 : ((n : Int) != 24) = true := by simp; omega
    have HK := Lib.hid hk
    clear hk hp hn
    go_enter Try.func22, Try.ntmps22
    go_wp2_with (go_at_call 60; refine (has_any _ _ _ _ _ _ c0).mono ?_; rintro e w' ⟨rfl, rfl⟩; rw [HK.out])
    go_ret
    exact ⟨rfl, H.out, Fr.refl _ _⟩
theorem write_no (sb : Nat) (d : Dk) (p : Nat) (A : Option Addr) (c : Nat) (F : Nat → Prop) (w : World) (h : DiskAt w F sb d) (hp : p < d.pages.length) (ha : d.acc < 1000000000) (hc : d.code ≠ 0) :
    Calls Try.prog 22 #[.pointer (some ⟨sb, 0, none⟩), .int .i64 p, .slice A 24 c] w (WriteNo sb d.hit d.code F w) := by
  obtain ⟨pb, cap, mb, xs, es, clock, hd⟩ := h
  have c0 : w.cell? ⟨sb, 0, none⟩ = some (.slice (some ⟨pb, 0, none⟩) d.pages.length cap) := hd.blk.cell 0 _ rfl
  have hk : (decide (0 ≤ (p : Int)) && decide ((p : Int) < d.pages.length)) = true := by simp; omega
  have HK := Lib.hid hk
  have hc' : (d.code != 0) = true := by simpa using hc
  have hacc := access_any sb _ _ d w hd.blk hd.acc0 ha hd.fail0 hd.fail1
  have HA := Lib.hid hacc
  have HD := Lib.hid hd
  clear hk hp hc hacc hd
  go_enter Try.func22, Try.ntmps22
  go_wp2_with (first | (go_at_call 60; refine (has_any _ _ _ _ _ _ c0).mono ?_; rintro e w' ⟨rfl, rfl⟩; rw [HK.out]) | (go_at_call 61; refine HA.out.mono ?_; rintro e w' ⟨rfl, hb1, hf1⟩))
  go_ret
  exact ⟨rfl, ⟨pb, cap, mb, xs, es, clock, HD.out.hit hb1 hf1⟩, hf1⟩
set_option maxHeartbeats 1000000 in
theorem write_ok (sb : Nat) (d : Dk) (p : Nat) (ad : Addr) (c : Nat) (l : List Int) (F : Nat → Prop) (w : World) (h : DiskAt w F sb d) (hp : p < d.pages.length) (ha : d.acc < 1000000000) (hc : d.code = 0)
    (hl : l.length = 24) (hcell : ∀ j u, (nums l)[j]? = some u → w.cell? (ad.add j) = some u) (had : ad.block ≠ sb) :
    Calls Try.prog 22 #[.pointer (some ⟨sb, 0, none⟩), .int .i64 p, .slice (some ad) 24 c] w (WriteOk sb d p l F w) := by
  obtain ⟨pb, cap, mb, xs, es, clock, hd⟩ := h
  have c0 : w.cell? ⟨sb, 0, none⟩ = some (.slice (some ⟨pb, 0, none⟩) d.pages.length cap) := hd.blk.cell 0 _ rfl
  have hk : (decide (0 ≤ (p : Int)) && decide ((p : Int) < d.pages.length)) = true := by simp; omega
  have HK := Lib.hid hk
  have HP := Lib.hid hp
  have hacc := access_any sb _ _ d w hd.blk hd.acc0 ha hd.fail0 hd.fail1
  rw [show AccTo sb (.slice (some ⟨pb, 0, none⟩) d.pages.length cap) (.map (some mb)) d w = fun e w' => e = .returned (.int .i64 0) ∧ Blk w' sb 101 (DiskCells (.slice (some ⟨pb, 0, none⟩) d.pages.length cap) (.map (some mb)) d.hit.acc d.hit.fails d.down) ∧ Fr (fun b => b = sb) w w' from by unfold AccTo; rw [hc]] at hacc
  have HA := Lib.hid hacc
  have HD := Lib.hid hd
  -- the clone of b, in the world behind the access and the draw
  have hcl : ∀ w1 : World, Fr (fun b => b = sb) w w1 → Calls Try.prog 62 #[.slice (some ad) 24 c] w1.drew (CloneTo 24 (nums l) w1.drew) := fun w1 hf => by
    refine clone_any ad 24 c (nums l) w1.drew (by rw [nums_length]; exact hl) (by omega) (fun j u hj => ?_) (nums_one _)
    have h0 := hcell j u hj
    have hbl : (ad.add j).block = ad.block := by unfold Addr.add; split <;> rfl
    exact cell_fr h0 (hf.drew) (by rw [hbl]; exact had)
  have HCL := Lib.hid hcl
  -- the store into the map
  have hst : ∀ (w1 w2 : World) (v : Value), Blk w1 sb 101 (DiskCells (.slice (some ⟨pb, 0, none⟩) d.pages.length cap) (.map (some mb)) d.hit.acc d.hit.fails d.down) → Fr (fun b => b = sb) w w1 → w2.ownsRow w1.heap.size 5 1 v 24 (nums l) → Below w1.heap.size w1 w2 →
      ∃ w3, (Instr.mapUpdate 99 (.map (some mb)) (.int .i64 (p : Int)) v).run Try.prog w2 = .ok () w3 ∧ w3.cell? ⟨sb, 1, none⟩ = some (.map (some mb)) ∧ Hid (WriteOk sb d p l F w (.returned (.int .i64 0)) w3) := by
    intro w1 w2 v hb1 hf1 ho hbel
    have h2 := ((HD.out.hit hb1 hf1).fr (Fr.of_below hbel (fun _ => False)) (fun _ _ h => h.elim)).mono (G := fun b => F b ∨ w.heap.size ≤ b) (fun _ _ h => .inl h)
    have hi : Img w2 (fun b => F b ∨ w.heap.size ≤ b) v l := ⟨own_base0 ho, hl, fun b hb => .inr (Nat.le_trans hf1.size (own_ge ho b hb))⟩
    obtain ⟨es', clock', w3, hr, h3, hf3⟩ := h2.put (by rw [Dk.hit_pages]; exact hp) hi
    refine ⟨w3, hr, h3.blk.cell 1 _ rfl, Lib.hid ⟨rfl, ⟨pb, cap, mb, xs, es', clock', h3⟩, ?_⟩⟩
    exact ((hf1.mono (fun b _ hb => by subst hb; exact HD.out.fs)).and_below hbel).trans hf3 (fun b _ hb => by subst hb; exact HD.out.fm)
  have HST := Lib.hid hst
  have hn24 : ((24 : Int) != 24) = false := rfl
  clear hk hp hc hacc hd hcl hst hcell had hl
  go_enter Try.func22, Try.ntmps22
  go_wp2_with (first | (go_at_call 60; refine (has_any _ _ _ _ _ _ c0).mono ?_; rintro e w' ⟨rfl, rfl⟩; rw [HK.out]) | (go_at_call 61; refine HA.out.mono ?_; rintro e w1 ⟨rfl, hb1, hf1⟩; have c1 : w1.cell? ⟨sb, 1, none⟩ = some (.map (some mb)) := hb1.cell 1 _ rfl))
  go_region_held3 (fun w' => w'.cell? ⟨sb, 1, none⟩ = some (.map (some mb))) (first | go_keep) (first | (go_at_call 62; refine (HCL.out w1 hf1).mono ?_; rintro e w2 ⟨v, rfl, ho, hbel0⟩; have hbel : Below w1.heap.size w1 w2 := ⟨hbel0.os, hbel0.tape, hbel0.output, hbel0.size, hbel0.block⟩; have c12 : w2.cell? ⟨sb, 1, none⟩ = some (.map (some mb)) := (hb1.below hbel).cell 1 _ rfl; obtain ⟨w3, hr, c13, hfin⟩ := HST.out w1 w2 v hb1 hf1 ho hbel))
  go_wp2
  go_ret
  exact hfin.out
end Go.Proofs.Ytcapfahhoijblaa
