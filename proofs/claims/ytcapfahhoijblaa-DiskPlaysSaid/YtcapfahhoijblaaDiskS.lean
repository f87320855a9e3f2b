/- Sync of package disk's device. Conditions: each contract's premises. -/
import Derived.Test.YtcapfahhoijblaaDiskW
import Derived.Maps.RangeWalk
set_option linter.unusedVariables false
set_option linter.unusedSimpArgs false
set_option maxRecDepth 100000
namespace Go.Proofs.Ytcapfahhoijblaa
open Go.RowKit

section
variable {P : Program} {ops : Array Oper} {rest : List Oper} {o : Oper} {a : Act} {Q : Exit → Act → World → Prop}
theorem Fr.setBlock {F : Nat → Prop} {a w : World} (h : Fr F a w) (mb : Nat) (o : Obj) (hp : F mb ∨ a.heap.size ≤ mb) : Fr F a (Go.ChangeMaps.setBlock w mb o) := h.setObj mb o hp
/-- A step of a range over a map. -/
theorem wpList_next_at {w : World} (hg : o.guard = none) (it : Operand) (hop : o.op = Op.next it false) (r bm since c0 : Nat) (seen : Array Nat) (es : Array MapEntry) (clock : Nat) (hs : a.eval it = .pointer (some ⟨r, 0, none⟩))
    (hr : w.heap[r]? = some (.mapIter (some bm) since seen c0)) (hb : w.heap[bm]? = some (.map es clock)) (hold : ∀ x ∈ es.toList, x.born < since) (hsc : since ≤ c0)
    (h0 : (leftOf es seen).size = 0 → wpList P ops Q rest (a.put o.dst (.tuple #[.bool false])) w)
    (h1 : ∀ e ∈ (leftOf es seen).toList, ∀ w2 : World, w2.heap[r]? = some (.mapIter (some bm) since (seen.push e.born) clock) → Fr (fun b => b = r) w w2 → wpList P ops Q rest (a.put o.dst (.tuple #[.bool true, e.key, e.val])) w2) :
    wpList P ops Q (o :: rest) a w := by
  refine wpList_plain hg fun K hK => ?_
  rcases run_next_at (P := P) w o.type r bm since c0 seen es clock hr hb hold hsc with ⟨hz, hrun⟩ | ⟨e, he, w1, hw1, hrun⟩
  · unfold Oper.wp execOp
    simp only [hop, hs, hrun, Sem.run_bind, Sem.run_pure, Result.andThen_ok]
    exact hK _ _ (h0 hz)
  · unfold Oper.wp execOp
    simp only [hop, hs, hrun, Sem.run_bind, Sem.run_pure, Result.andThen_ok]
    refine hK _ _ (h1 e he _ ?_ ?_)
    · have hlt : r < w1.heap.size := by rcases hw1 with rfl | rfl <;> exact heap_lt hr
      exact setObj_at hlt _
    · rcases hw1 with rfl | rfl
      · exact (Fr.refl _ _).setBlock _ _ (.inl rfl)
      · exact (Fr.refl _ _).drew.setBlock _ _ (.inl rfl)
theorem run_range_at {w : World} {t k e : TypeId} {mb : Nat} {es : Array MapEntry} {clock : Nat} (ht : P.underlying t = some (.map k e)) (hm : w.heap[mb]? = some (.map es clock)) :
    (Instr.range t (.map (some mb))).run P w = .ok (.pointer (some ⟨w.heap.size, 0, none⟩)) (w.alloc (.mapIter (some mb) clock #[] clock)) := by
  simp [Instr.range, run_underlying ht, run_getm hm, Result.andThen, newObj, Sem.run]
theorem wpList_clear_at {w : World} (hg : o.guard = none) (m : Operand) (t k e : TypeId) (hop : o.op = .call { callee := .builtin .clear, args := #[m], argTypes := #[t] }) (ht : P.underlying t = some (.map k e)) (mb : Nat) (es : Array MapEntry) (clock : Nat) (hs : a.eval m = .map (some mb))
    (hm : w.heap[mb]? = some (.map es clock))
    (h : ∀ w2 : World, w2.heap[mb]? = some (.map #[] clock) → Fr (fun b => b = mb) w w2 → wpList P ops Q rest (a.put o.dst (.tuple #[])) w2) : wpList P ops Q (o :: rest) a w := by
  refine wpList_plain hg fun K hK => ?_
  have hrun : (Builtin.clear_ #[t] o.type #[.map (some mb)]).run P w = .ok (.tuple #[]) { w with heap := w.heap.setIfInBounds mb (.map #[] clock) } := by
    simp [Builtin.clear_, run_underlying ht, run_getm hm, run_setm hm, Result.andThen]
  unfold Oper.wp execOp
  simp only [hop, resolve, invoke, builtin, Sem.run_bind, Sem.run_pure, Result.andThen_ok, List.map_toArray, List.map_cons, List.map_nil, hs, hrun]
  exact hK _ _ (h _ (setObj_at (heap_lt hm) _) ((Fr.refl _ _).setObj _ _ (.inl rfl)))
end

/-- All that waits is durable. -/
def Dk.sync (d : Dk) : Dk := { d with pages := (List.range d.pages.length).map d.get, waits := fun _ => none }
/-- What a range over the map has done to the pages' cells. -/
def Done (es : Array MapEntry) (seen : Array Nat) (xs xs' : List Value) : Prop :=
  xs'.length = xs.length ∧ ∀ (i : Nat) (v0 : Value), xs[i]? = some v0 → ∃ v, xs'[i]? = some v ∧
    ((∃ e ∈ es.toList, e.key = .int .i64 (i : Int) ∧ seen.contains e.born = true ∧ v = e.val) ∨ ((∀ e ∈ es.toList, e.key = .int .i64 (i : Int) → seen.contains e.born = false) ∧ v = v0))
structure SyncIs (w0 : World) (sb : Nat) (cs : Array Value) (n pb cap mb : Nat) (xs : List Value) (es : Array MapEntry) (clock r : Nat) (wr : World) (seen : Array Nat) (c0 : Nat) (xs' : List Value) : Prop where
  iter : wr.heap[r]? = some (.mapIter (some mb) clock seen c0)
  c0 : clock ≤ c0
  map : wr.heap[mb]? = some (.map es clock)
  blk : Blk wr sb 101 cs
  own : wr.ownsRow 0 25 1 (.slice (some ⟨pb, 0, none⟩) n cap) n xs'
  done : Done es seen xs xs'
  fr : Fr (fun b => b = pb) w0 wr
def SyncRel (w0 : World) (sb : Nat) (cs : Array Value) (n pb cap mb : Nat) (xs : List Value) (es : Array MapEntry) (clock r : Nat) (wr : World) : Prop := ∃ seen c0 xs', SyncIs w0 sb cs n pb cap mb xs es clock r wr seen c0 xs'
def rangeLeft (es : Array MapEntry) (r : Nat) (w : World) : Nat := match w.heap[r]? with | some (.mapIter _ _ seen _) => (leftOf es seen).size | _ => 0
theorem rangeLeft_of {es : Array MapEntry} {r : Nat} {w : World} {m : Option Nat} {s c : Nat} {seen : Array Nat} (h : w.heap[r]? = some (.mapIter m s seen c)) : rangeLeft es r w = (leftOf es seen).size := by unfold rangeLeft; rw [h]
theorem Done.start (es : Array MapEntry) (xs : List Value) : Done es #[] xs xs := ⟨rfl, fun i v0 h => ⟨v0, h, .inr ⟨fun _ _ _ => by simp, rfl⟩⟩⟩
theorem Done.step {es : Array MapEntry} {seen : Array Nat} {xs xs' : List Value} (h : Done es seen xs xs') {e : MapEntry} (he : e ∈ es.toList) {p : Nat} (hk : e.key = .int .i64 (p : Int)) (hkeys : es.toList.Pairwise fun a b => a.key ≠ b.key) (hborn : es.toList.Pairwise fun a b => a.born < b.born) :
    Done es (seen.push e.born) xs (xs'.set p e.val) := by
  have huni : ∀ x ∈ es.toList, x.born = e.born → x = e := fun x hx hb => by
    by_cases hxe : x = e
    · exact hxe
    · exfalso
      obtain ⟨i, hi⟩ := List.mem_iff_getElem.1 hx
      obtain ⟨j, hj⟩ := List.mem_iff_getElem.1 he
      obtain ⟨hi, hi'⟩ := hi
      obtain ⟨hj, hj'⟩ := hj
      have hpw := List.pairwise_iff_getElem.1 hborn
      rcases Nat.lt_trichotomy i j with h1 | h1 | h1
      · have := hpw i j hi hj h1; rw [hi', hj'] at this; omega
      · subst h1; exact hxe (hi'.symm.trans hj')
      · have := hpw j i hj hi h1; rw [hi', hj'] at this; omega
  have hukey : ∀ x ∈ es.toList, x.key = e.key → x = e := fun x hx hb => by
    by_cases hxe : x = e
    · exact hxe
    · exfalso
      obtain ⟨i, hi, hi'⟩ := List.mem_iff_getElem.1 hx
      obtain ⟨j, hj, hj'⟩ := List.mem_iff_getElem.1 he
      have hpw := List.pairwise_iff_getElem.1 hkeys
      rcases Nat.lt_trichotomy i j with h1 | h1 | h1
      · have := hpw i j hi hj h1; rw [hi', hj'] at this; exact this hb
      · subst h1; exact hxe (hi'.symm.trans hj')
      · have := hpw j i hj hi h1; rw [hi', hj'] at this; exact this hb.symm
  refine ⟨by simp [h.1], fun i v0 hi => ?_⟩
  obtain ⟨v, hv, hcase⟩ := h.2 i v0 hi
  by_cases hip : i = p
  · subst hip
    have hlen : i < xs'.length := (List.getElem?_eq_some_iff.1 hv).1
    exact ⟨e.val, by simp [hlen], .inl ⟨e, he, hk, by simp, rfl⟩⟩
  · refine ⟨v, by rw [List.getElem?_set_ne (Ne.symm hip)]; exact hv, ?_⟩
    rcases hcase with ⟨x, hx, hxk, hxs, hxv⟩ | ⟨hall, hv0⟩
    · exact .inl ⟨x, hx, hxk, by simp only [Array.contains_push, hxs, Bool.true_or], hxv⟩
    · refine .inr ⟨fun x hx hxk => ?_, hv0⟩
      have hne : x.born ≠ e.born := fun hb => by
        have := huni x hx hb
        subst this
        rw [hxk] at hk; injection hk with _ hk; omega
      have h1 := hall x hx hxk
      simp only [Array.contains_push, h1, Bool.false_or]
      simpa using hne
theorem SyncIs.step {w0 : World} {sb : Nat} {cs : Array Value} {n pb cap mb : Nat} {xs : List Value} {es : Array MapEntry} {clock r : Nat} {wr w2 : World} {seen : Array Nat} {c0 : Nat} {xs' : List Value} (h : SyncIs w0 sb cs n pb cap mb xs es clock r wr seen c0 xs')
    {e : MapEntry} (he : e ∈ (leftOf es seen).toList) {p : Nat} (hk : e.key = .int .i64 (p : Int)) (hkeys : es.toList.Pairwise fun a b => a.key ≠ b.key) (hborn : es.toList.Pairwise fun a b => a.born < b.born) (hr0 : w0.heap.size ≤ r)
    (hi : w2.heap[r]? = some (.mapIter (some mb) clock (seen.push e.born) clock)) (hf : Fr (fun b => b = r) wr w2) :
    SyncIs w0 sb cs n pb cap mb xs es clock r (w2.setCell ⟨pb, p, none⟩ e.val) (seen.push e.born) clock (xs'.set p e.val) ∧ rangeLeft es r (w2.setCell ⟨pb, p, none⟩ e.val) < rangeLeft es r wr := by
  have hmr : mb ≠ r := fun e => by have := h.map; rw [e, h.iter] at this; cases this
  have hsr : sb ≠ r := fun e => by have := h.blk; simp only [Blk] at this; rw [e, h.iter] at this; cases this
  have hpr : pb ≠ r := fun e => by
    rcases h.own.2 with ⟨h', _⟩ | ⟨g, cap', cur, h', _, hh, _⟩
    · cases h'
    · injection h' with h'; injection h' with h'; injection h' with h'
      rw [← h', e, h.iter] at hh; cases hh
  have hpm : pb ≠ mb := own_row_map h.own h.map pb rfl
  have hps : pb ≠ sb := own_row_type h.own h.blk (by decide) pb rfl
  have hmem := (mem_left he).1
  have hit : (w2.setCell ⟨pb, p, none⟩ e.val).heap[r]? = some (.mapIter (some mb) clock (seen.push e.born) clock) := by rw [setCell_heap_ne _ _ _ _ (Ne.symm hpr)]; exact hi
  refine ⟨{ iter := hit, c0 := Nat.le_refl _, map := ?_, blk := (h.blk.fr hf hsr).other _ _ (Ne.symm hps), own := ((own_fr h.own hf (fun b hb => by simp [Value.ownBlock] at hb; subst hb; exact hpr)).stored p e.val).1, done := h.done.step hmem hk hkeys hborn, fr := ?_ }, ?_⟩
  · rw [setCell_heap_ne _ _ _ _ (Ne.symm hpm), hf.block mb (heap_lt h.map) hmr]; exact h.map
  · exact (h.fr.trans (hf.mono (G := fun b => b = r) (fun _ _ h => h)) (fun i hi' hr => by omega)).setCell _ _ (.inl rfl)
  · rw [rangeLeft_of hit, rangeLeft_of h.iter]; exact left_shrinks es seen e he
theorem Dk.get_def {d : Dk} {i : Nat} {l : List Int} (hl : d.pages[i]? = some l) : d.get i = (d.waits i).getD l := by simp [Dk.get, List.getD, hl]
theorem SyncIs.fin {w0 : World} {F : Nat → Prop} {sb : Nat} {d : Dk} {pb cap mb : Nat} {xs : List Value} {es : Array MapEntry} {clock r : Nat} {wr w2 : World} {seen : Array Nat} {c0 : Nat} {xs' : List Value} (hd : DiskIs w0 F sb d pb cap mb xs es clock)
    (h : SyncIs w0 sb (DiskCells (.slice (some ⟨pb, 0, none⟩) d.pages.length cap) (.map (some mb)) d.acc d.fails d.down) d.pages.length pb cap mb xs es clock r wr seen c0 xs') (hz : (leftOf es seen).size = 0)
    (hm : w2.heap[mb]? = some (.map #[] clock)) (hf : Fr (fun b => b = mb) wr w2) : DiskAt w2 F sb d.sync ∧ Fr F w0 w2 := by
  have hall := all_seen es seen hz
  have hfr : Fr (fun b => b = pb ∨ b = mb) w0 w2 := (h.fr.mono (fun _ _ h => .inl h)).trans hf (fun _ _ h => .inr h)
  have hpm : pb ≠ mb := own_row_map h.own h.map pb rfl
  have hsm : sb ≠ mb := blk_map_ne h.blk h.map
  have hlen : d.sync.pages.length = d.pages.length := by simp [Dk.sync]
  have hI : ∀ v l, Img w0 F v l → Img w2 F v l := fun v l hi => hi.fr hfr (fun b hb hbb => by
    rcases hbb with hbb | hbb
    · exact hi.own_ne hd.own (by decide) b hb (by rw [hbb]; rfl)
    · exact own_row_map hi.1 hd.map.heap b hb hbb)
  refine ⟨⟨pb, cap, mb, xs', #[], clock, ?_⟩, hfr.mono (fun b _ hb => by rcases hb with rfl | rfl; exact hd.fp; exact hd.fm)⟩
  refine { blk := by rw [hlen]; exact h.blk.fr hf hsm, own := by rw [hlen]; exact own_fr h.own hf (fun b hb => by simp [Value.ownBlock] at hb; subst hb; exact hpm), img := ?_, map := ⟨hm, by simp, by simp [Dk.sync], by simp, by simp, by simp⟩, fs := hd.fs, fp := hd.fp, fm := hd.fm, some_ := by rw [hlen]; exact hd.some_, few := by rw [hlen]; exact hd.few, acc0 := hd.acc0, fail0 := hd.fail0, fail1 := hd.fail1 }
  intro i l hi
  have hin : i < d.pages.length ∧ l = d.get i := by
    simp only [Dk.sync, List.getElem?_map, List.getElem?_range'] at hi
    by_cases hlt : i < d.pages.length
    · simp [hlt] at hi; exact ⟨hlt, hi.symm⟩
    · simp [hlt] at hi
  obtain ⟨hlt, rfl⟩ := hin
  have hpl : d.pages[i]? = some d.pages[i] := by simp [hlt]
  obtain ⟨v0, hv0, hi0⟩ := hd.img i _ hpl
  obtain ⟨v, hv, hcase⟩ := h.done.2 i v0 hv0
  refine ⟨v, hv, ?_⟩
  rw [Dk.get_def hpl]
  rcases hcase with ⟨e, he, hk, _, rfl⟩ | ⟨hno, rfl⟩
  · obtain ⟨q, l, _, hkq, hil, hw⟩ := hd.map.ent e he
    rw [hk] at hkq; injection hkq with _ hkq
    obtain rfl : i = q := by omega
    rw [hw]; exact hI _ _ hil
  · cases hw : d.waits i with
    | none => exact hI _ _ hi0
    | some l =>
      obtain ⟨e, he, hk⟩ := hd.map.has i l hw
      have h1 := hno e he hk
      rw [hall e he] at h1; cases h1

def SyncOk (sb : Nat) (d : Dk) (F : Nat → Prop) (w : World) (e : Ending) (w' : World) : Prop := e = .returned (.int .i64 0) ∧ DiskAt w' F sb d.hit.sync ∧ Fr F w w'
theorem sync_nil (w : World) : Calls Try.prog 25 #[.pointer none] w fun e w' => e = .returned (.int .i64 12) ∧ w = w' := by
  go_enter Try.func25, Try.ntmps25
  go_wp2
  go_ret
  exact ⟨rfl, rfl⟩
theorem sync_no (sb : Nat) (d : Dk) (F : Nat → Prop) (w : World) (h : DiskAt w F sb d) (ha : d.acc < 1000000000) (hc : d.code ≠ 0) :
    Calls Try.prog 25 #[.pointer (some ⟨sb, 0, none⟩)] w (WriteNo sb d.hit d.code F w) := by
  obtain ⟨pb, cap, mb, xs, es, clock, hd⟩ := h
  have hc' : (d.code != 0) = true := by simpa using hc
  have hacc := access_any sb _ _ d w hd.blk hd.acc0 ha hd.fail0 hd.fail1
  have HA := Lib.hid hacc
  have HD := Lib.hid hd
  clear hc hacc hd
  go_enter Try.func25, Try.ntmps25
  go_wp2_with (go_at_call 61; refine HA.out.mono ?_; rintro e w' ⟨rfl, hb1, hf1⟩)
  go_ret
  exact ⟨rfl, ⟨pb, cap, mb, xs, es, clock, HD.out.hit hb1 hf1⟩, hf1⟩
set_option maxHeartbeats 1000000 in
theorem sync_ok (sb : Nat) (d : Dk) (F : Nat → Prop) (w : World) (h : DiskAt w F sb d) (ha : d.acc < 1000000000) (hc : d.code = 0) :
    Calls Try.prog 25 #[.pointer (some ⟨sb, 0, none⟩)] w (SyncOk sb d F w) := by
  obtain ⟨pb, cap, mb, xs, es, clock, hd⟩ := h
  have hacc := access_any sb _ _ d w hd.blk hd.acc0 ha hd.fail0 hd.fail1
  rw [show AccTo sb (.slice (some ⟨pb, 0, none⟩) d.pages.length cap) (.map (some mb)) d w = fun e w' => e = .returned (.int .i64 0) ∧ Blk w' sb 101 (DiskCells (.slice (some ⟨pb, 0, none⟩) d.pages.length cap) (.map (some mb)) d.hit.acc d.hit.fails d.down) ∧ Fr (fun b => b = sb) w w' from by unfold AccTo; rw [hc]] at hacc
  have HA := Lib.hid hacc
  have HD := Lib.hid hd
  clear hc hacc hd
  go_enter Try.func25, Try.ntmps25
  go_wp2_with (go_at_call 61; refine HA.out.mono ?_; rintro e w1 ⟨rfl, hb1, hf1⟩; have c1 : w1.cell? ⟨sb, 1, none⟩ = some (.map (some mb)) := hb1.cell 1 _ rfl; have hm1 := run_range_at Try.underlying99 (HD.out.hit hb1 hf1).map.heap)
  have h1 : DiskIs w1 F sb d.hit pb cap mb xs es clock := HD.out.hit hb1 hf1
  have hpg : d.hit.pages.length = d.pages.length := by rw [Dk.hit_pages]
  have H1 := Lib.hid h1
  have HPG := Lib.hid hpg
  clear h1 hpg hm1
  go_loopw [18] (fun _ wr => SyncRel w1 sb (DiskCells (.slice (some ⟨pb, 0, none⟩) d.pages.length cap) (.map (some mb)) d.hit.acc d.hit.fails d.down) d.pages.length pb cap mb xs es clock w1.heap.size wr) (fun _ wr => rangeLeft es w1.heap.size wr)
  case atStart =>
    have ho := H1.out.own
    rw [HPG.out] at ho
    exact ⟨#[], clock, xs, { iter := heap_alloc_new w1 _, c0 := Nat.le_refl _, map := by rw [Below.heap_alloc _ _ _ (heap_lt H1.out.map.heap)]; exact H1.out.map.heap, blk := hb1.alloc _, own := ho.alloc _, done := Done.start es xs, fr := (Fr.refl _ _).alloc _ }⟩
  case round =>
    obtain ⟨seen, c0, xs', hs⟩ := hrel
    have HS := Lib.hid hs
    have hit := Lib.hid hs.iter
    have hcc := hs.c0
    have hmm := Lib.hid hs.map
    have hold := Lib.hid H1.out.map.old
    clear hs
    go_wp2_with (at_next; refine wpList_next_at rfl _ rfl w1.heap.size mb clock c0 seen es clock rfl hit.out hmm.out hold.out hcc ?_ ?_)
    · intro hz
      have c1r : wr.cell? ⟨sb, 1, none⟩ = some (.map (some mb)) := HS.out.blk.cell 1 _ rfl
      have HZ := Lib.hid hz
      clear hz
      go_wp2_with (with_reducible refine wpList_clear_at rfl _ 99 3 25 rfl Try.underlying99 mb es clock rfl hmm.out ?_; intro w2 hm2 hf2)
      go_wp2
      go_ret
      have hs := HS.out
      rw [← HPG.out] at hs
      have hfin := SyncIs.fin (d := d.hit) H1.out (by rw [Dk.hit_down]; exact hs) (by rw [HZ.out]; rfl) hm2 hf2
      exact ⟨rfl, hfin.1, (hf1.mono (fun b _ hb => by subst hb; exact HD.out.fs)).trans hfin.2 (fun _ _ h => h)⟩
    · intro e he0 w2 hi2 hf2
      have he : e ∈ (leftOf es seen).toList := by simpa using he0
      clear he0
      have hs := HS.out
      obtain ⟨q, l, hq, hk, hil, _⟩ := H1.out.map.ent e (mem_left he).1
      obtain ⟨g, cp, hv, _⟩ := hil.form
      rw [HPG.out] at hq
      have hst := hs.step he hk H1.out.map.keys H1.out.map.born (Nat.le_refl _) hi2 hf2
      have hxl : q < xs'.length := by have := hs.own.1; omega
      have hsr : sb ≠ w1.heap.size := fun e => by have := hb1.lt; omega
      have hpr : pb ≠ w1.heap.size := fun e => by have := own_size H1.out.own pb rfl; omega
      have hmr : mb ≠ w1.heap.size := fun e => by have := heap_lt H1.out.map.heap; omega
      have c0r : w2.cell? ⟨sb, 0, none⟩ = some (.slice (some ⟨pb, 0, none⟩) d.pages.length cap) := (hs.blk.fr hf2 hsr).cell 0 _ rfl
      have hoc := own_cell (own_fr hs.own hf2 (fun b hb => by simp [Value.ownBlock] at hb; subst hb; exact hpr))
      have cq : w2.cell? ⟨pb, q, none⟩ = some xs'[q] := hoc.2.1 q _ (by simp [hxl])
      have fq := hoc.1 q
      have hm2 : w2.heap[mb]? = some (.map es clock) := by rw [hf2.block mb (heap_lt hs.map) hmr]; exact hs.map
      have hen := run_entry_at (P := Try.prog) w2 w1.heap.size mb clock seen es clock e hi2 hm2 (mem_left he).1 ((List.pairwise_map.2 (H1.out.map.born.imp (fun h => Nat.ne_of_lt h))))
      rw [hk, hv] at hen
      rw [hv] at hst
      rw [hk, hv]
      have hq1 : (q : Int) < (d.pages.length : Int) := by omega
      have hq0 : (0 : Int) ≤ (q : Int) := by omega
      have HST := Lib.hid hst
      clear hst hs hm2 hi2 hv hk hoc hsr hpr hmr
      go_wp2
      exact ⟨⟨_, _, _, HST.out.1⟩, HST.out.2⟩
end Go.Proofs.Ytcapfahhoijblaa
