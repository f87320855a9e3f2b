/- Fail, Accesses, Read and Write of package disk's device. Conditions: each contract's premises. -/
import Derived.Test.YtcapfahhoijblaaDiskOps
set_option linter.unusedVariables false
set_option linter.unusedSimpArgs false
set_option maxRecDepth 100000
namespace Go.Proofs.Ytcapfahhoijblaa
open Go.RowKit

/-! ### Fail -/
def Dk.failOk (n : Int) : Bool := decide (0 ≤ n) && decide (n ≤ 1000000)
def Dk.fail (d : Dk) (n : Int) : Dk := if 0 ≤ n ∧ n ≤ 1000000 then { d with fails := n } else d
def FailTo (sb : Nat) (d : Dk) (n : Int) (F : Nat → Prop) (w : World) (e : Ending) (w' : World) : Prop :=
  e = .returned (.bool (Dk.failOk n)) ∧ DiskAt w' F sb (d.fail n) ∧ Fr (fun b => b = sb) w w'
theorem fail_any (sb : Nat) (d : Dk) (n : Int) (F : Nat → Prop) (w : World) (h : DiskAt w F sb d) :
    Calls Try.prog 27 #[.pointer (some ⟨sb, 0, none⟩), .int .i64 n] w (FailTo sb d n F w) := by
  have H := Lib.hid h
  obtain ⟨pb, cap, mb, xs, es, clock, hd⟩ := h
  have f3 := hd.blk.free 3
  have c3 : w.cell? ⟨sb, 3, none⟩ = some (.int .i64 d.fails) := hd.blk.cell 3 _ rfl
  have hs := hd.blk.set 3 (.int .i64 n)
  have HD := Lib.hid hd
  clear hd
  by_cases h0 : n < 0
  · have hk : Dk.failOk n = false := by simp [Dk.failOk]; omega
    have hm : d.fail n = d := by unfold Dk.fail; rw [if_neg (by omega)]
    have HK := Lib.hid hk
    have HM := Lib.hid hm
    clear hk hm
    go_enter Try.func27, Try.ntmps27
    go_wp2
    go_ret
    exact ⟨by rw [HK.out]; rfl, by rw [HM.out]; exact H.out, Fr.refl _ _⟩
  · by_cases h1 : 1000000 < n
    · have hk : Dk.failOk n = false := by simp [Dk.failOk]; omega
      have hm : d.fail n = d := by unfold Dk.fail; rw [if_neg (by omega)]
      have HK := Lib.hid hk
      have HM := Lib.hid hm
      clear hk hm
      go_enter Try.func27, Try.ntmps27
      go_wp2
      go_ret
      exact ⟨by rw [HK.out]; rfl, by rw [HM.out]; exact H.out, Fr.refl _ _⟩
    · have hk : Dk.failOk n = true := by simp [Dk.failOk]; omega
      have hm : d.fail n = { d with acc := d.acc, fails := n, down := d.down } := by unfold Dk.fail; rw [if_pos (by omega)]
      have HK := Lib.hid hk
      have HM := Lib.hid hm
      clear hk hm
      go_enter Try.func27, Try.ntmps27
      go_wp2
      go_ret
      exact ⟨by rw [HK.out]; rfl, by rw [HM.out]; exact ⟨pb, cap, mb, xs, es, clock, HD.out.move ((Fr.refl _ _).at_ _ _) (fun _ _ h => .inl h) hs HD.out.acc0 (by omega) (by omega)⟩, (Fr.refl _ _).at_ _ _⟩
theorem fail_nil (n : Int) (w : World) : Calls Try.prog 27 #[.pointer none, .int .i64 n] w fun e w' => e = .returned (.bool false) ∧ w = w' := by
  go_enter Try.func27, Try.ntmps27
  go_wp2
  go_ret
  exact ⟨rfl, rfl⟩
theorem accesses_any (sb : Nat) (d : Dk) (F : Nat → Prop) (w : World) (h : DiskAt w F sb d) : Calls Try.prog 36 #[.pointer (some ⟨sb, 0, none⟩)] w fun e w' => e = .returned (.int .i64 d.acc) ∧ w = w' := by
  obtain ⟨pb, cap, mb, xs, es, clock, hd⟩ := h
  have c2 : w.cell? ⟨sb, 2, none⟩ = some (.int .i64 d.acc) := hd.blk.cell 2 _ rfl
  clear hd
  go_enter Try.func36, Try.ntmps36
  go_wp2
  go_ret
  exact ⟨rfl, rfl⟩

/-! ### Read -/
/-- What was written last. -/
def Dk.get (d : Dk) (p : Nat) : List Int := (d.waits p).getD (d.pages.getD p [])
/-- Read's answer where it is an access that goes well. -/
def ReadOk (sb : Nat) (d : Dk) (p : Nat) (F : Nat → Prop) (w : World) (e : Ending) (w' : World) : Prop :=
  ∃ v, e = .returned (.tuple #[v, .int .i64 0]) ∧ w'.ownsRow w.heap.size 5 1 v 24 (nums (d.get p)) ∧ DiskAt w' F sb d.hit ∧ Fr (fun b => b = sb) w w'
def ReadNo (sb : Nat) (d : Dk) (c : Int) (F : Nat → Prop) (w : World) (e : Ending) (w' : World) : Prop :=
  e = .returned (.tuple #[.slice none 0 0, .int .i64 c]) ∧ DiskAt w' F sb d ∧ Fr (fun b => b = sb) w w'
theorem read_arg (sb : Nat) (d : Dk) (p : Int) (F : Nat → Prop) (w : World) (h : DiskAt w F sb d) (hp : p < 0 ∨ d.pages.length ≤ p) :
    Calls Try.prog 20 #[.pointer (some ⟨sb, 0, none⟩), .int .i64 p] w (ReadNo sb d 1 F w) := by
  have H := Lib.hid h
  obtain ⟨pb, cap, mb, xs, es, clock, hd⟩ := h
  have c0 : w.cell? ⟨sb, 0, none⟩ = some (.slice (some ⟨pb, 0, none⟩) d.pages.length cap) := hd.blk.cell 0 _ rfl
  clear hd
  have hk : (decide (0 ≤ p) && decide (p < d.pages.length)) = false := by simp; omega
  have HK := Lib.hid hk
  clear hk hp
  go_enter Try.func20, Try.ntmps20
  go_wp2_with (go_at_call 60; refine (has_any _ _ _ _ _ _ c0).mono ?_; rintro e w' ⟨rfl, rfl⟩; rw [HK.out])
  go_ret2
  exact ⟨rfl, H.out, Fr.refl _ _⟩
theorem read_no (sb : Nat) (d : Dk) (p : Nat) (F : Nat → Prop) (w : World) (h : DiskAt w F sb d) (hp : p < d.pages.length) (ha : d.acc < 1000000000) (hc : d.code ≠ 0) :
    Calls Try.prog 20 #[.pointer (some ⟨sb, 0, none⟩), .int .i64 p] w (ReadNo sb d.hit d.code F w) := by
  obtain ⟨pb, cap, mb, xs, es, clock, hd⟩ := h
  have c0 : w.cell? ⟨sb, 0, none⟩ = some (.slice (some ⟨pb, 0, none⟩) d.pages.length cap) := hd.blk.cell 0 _ rfl
  have hk : (decide (0 ≤ (p : Int)) && decide ((p : Int) < d.pages.length)) = true := by simp; omega
  have HK := Lib.hid hk
  have hc' : (d.code != 0) = true := by simpa using hc
  have hacc := access_any sb _ _ d w hd.blk hd.acc0 ha hd.fail0 hd.fail1
  have HA := Lib.hid hacc
  have HD := Lib.hid hd
  clear hk hp hc hacc hd
  go_enter Try.func20, Try.ntmps20
  go_wp2_with (first | (go_at_call 60; refine (has_any _ _ _ _ _ _ c0).mono ?_; rintro e w' ⟨rfl, rfl⟩; rw [HK.out]) | (go_at_call 61; refine HA.out.mono ?_; rintro e w' ⟨rfl, hb1, hf1⟩))
  go_ret2
  exact ⟨rfl, ⟨pb, cap, mb, xs, es, clock, HD.out.hit hb1 hf1⟩, hf1⟩

theorem Try.zeroBs (w : World) : (zeroValue 25).run Try.prog w = .ok (.slice none 0 0) w := by kernel_rfl
theorem MapIs.ints {w : World} {F : Nat → Prop} {mb n : Nat} {wt : Nat → Option (List Int)} {es : Array MapEntry} {clock : Nat} (h : MapIs w F mb n wt es clock) : ∀ x ∈ es.toList, ∃ q, x.key = .int .i64 q := fun x hx => by
  obtain ⟨p, l, _, hk, _⟩ := h.ent x hx
  exact ⟨p, hk⟩
theorem MapIs.none_ {w : World} {F : Nat → Prop} {mb n : Nat} {wt : Nat → Option (List Int)} {es : Array MapEntry} {clock : Nat} (h : MapIs w F mb n wt es clock) {p : Nat} (hp : wt p = none) : ∀ x ∈ es.toList, x.key ≠ .int .i64 (p : Int) := fun x hx hk => by
  obtain ⟨q, l, _, hq, _, hw⟩ := h.ent x hx
  rw [hq] at hk
  injection hk with _ hk
  obtain rfl : q = p := by omega
  rw [hp] at hw; cases hw
theorem MapIs.some_ {w : World} {F : Nat → Prop} {mb n : Nat} {wt : Nat → Option (List Int)} {es : Array MapEntry} {clock : Nat} (h : MapIs w F mb n wt es clock) {p : Nat} {l : List Int} (hp : wt p = some l) : ∃ x ∈ es.toList, x.key = .int .i64 (p : Int) ∧ Img w F x.val l := by
  obtain ⟨x, hx, hk⟩ := h.has p l hp
  obtain ⟨q, l', _, hq, hi, hw⟩ := h.ent x hx
  refine ⟨x, hx, hk, ?_⟩
  rw [hq] at hk
  injection hk with _ hk
  obtain rfl : q = p := by omega
  rw [hp] at hw
  obtain rfl := Option.some.inj hw
  exact hi
theorem Img.form {w : World} {F : Nat → Prop} {v : Value} {l : List Int} (h : Img w F v l) : ∃ g cap, v = .slice (some ⟨g, 0, none⟩) 24 cap ∧ ∀ j u, (nums l)[j]? = some u → w.cell? ((⟨g, 0, none⟩ : Addr).add j) = some u := by
  obtain ⟨g, cap, rfl, _, _, _, hc⟩ := own_form h.1 (by omega)
  refine ⟨g, cap, rfl, fun j u hj => ?_⟩
  have hadd : (⟨g, 0, none⟩ : Addr).add j = ⟨g, j, none⟩ := by unfold Addr.add; split <;> simp_all
  rw [hadd]; exact hc j u hj
theorem img_clone {w : World} {F : Nat → Prop} {g cap : Nat} {l : List Int} (h : Img w F (.slice (some ⟨g, 0, none⟩) 24 cap) l) : Calls Try.prog 62 #[.slice (some ⟨g, 0, none⟩) 24 cap] w (CloneTo 24 (nums l) w) := by
  obtain ⟨g', cap', he, hc⟩ := h.form
  injection he with he h2 h3
  injection he with he
  injection he with he
  subst he
  exact clone_any _ _ _ _ _ (by rw [nums_length]; exact h.2.1) (by omega) hc (nums_one _)
theorem Dk.hit_pages (d : Dk) : d.hit.pages = d.pages := by unfold Dk.hit; split <;> rfl
theorem Dk.hit_waits (d : Dk) : d.hit.waits = d.waits := by unfold Dk.hit; split <;> rfl
theorem Dk.hit_down (d : Dk) : d.hit.down = d.down := by unfold Dk.hit; split <;> rfl
theorem Dk.hit_get (d : Dk) (p : Nat) : d.hit.get p = d.get p := by simp only [Dk.get, Dk.hit_pages, Dk.hit_waits]
theorem look_some {w : World} {F : Nat → Prop} {sb : Nat} {d : Dk} {pb cap mb : Nat} {xs : List Value} {es : Array MapEntry} {clock : Nat} (h : DiskIs w F sb d pb cap mb xs es clock) {p : Nat} {l : List Int} (hp : d.waits p = some l) :
    ∃ g cp, (Instr.lookup 99 (.map (some mb)) (.int .i64 (p : Int)) true).run Try.prog w = .ok (.tuple #[.slice (some ⟨g, 0, none⟩) 24 cp, .bool true]) w ∧ Hid (Calls Try.prog 62 #[.slice (some ⟨g, 0, none⟩) 24 cp] w (CloneTo 24 (nums l) w)) := by
  obtain ⟨x, hx, hk, hi⟩ := h.map.some_ hp
  obtain ⟨g, cp, hv, _⟩ := hi.form
  refine ⟨g, cp, ?_, Lib.hid (img_clone (hv ▸ hi))⟩
  rw [← hv]
  exact run_lookup_some Try.underlying99 Try.underlying3 h.map.heap h.map.ints h.map.keys hx hk
theorem look_none {w : World} {F : Nat → Prop} {sb : Nat} {d : Dk} {pb cap mb : Nat} {xs : List Value} {es : Array MapEntry} {clock : Nat} (h : DiskIs w F sb d pb cap mb xs es clock) {p : Nat} (hp : d.waits p = none) :
    (Instr.lookup 99 (.map (some mb)) (.int .i64 (p : Int)) true).run Try.prog w = .ok (.tuple #[.slice none 0 0, .bool false]) w :=
  run_lookup_none Try.underlying99 Try.underlying3 Try.zeroBs h.map.heap h.map.ints (h.map.none_ hp)
theorem page_at {w : World} {F : Nat → Prop} {sb : Nat} {d : Dk} {pb cap mb : Nat} {xs : List Value} {es : Array MapEntry} {clock : Nat} (h : DiskIs w F sb d pb cap mb xs es clock) {p : Nat} (hp : p < d.pages.length) :
    ∃ g cp, w.cell? ⟨pb, p, none⟩ = some (.slice (some ⟨g, 0, none⟩) 24 cp) ∧ Hid (Calls Try.prog 62 #[.slice (some ⟨g, 0, none⟩) 24 cp] w (CloneTo 24 (nums (d.pages.getD p [])) w)) := by
  have hl : d.pages[p]? = some (d.pages.getD p []) := by simp [List.getD, hp]
  obtain ⟨v, hv, hi⟩ := h.img p _ hl
  obtain ⟨g, cp, rfl, _⟩ := hi.form
  exact ⟨g, cp, (own_cell h.own).2.1 p _ hv, Lib.hid (img_clone hi)⟩
theorem read_ok (sb : Nat) (d : Dk) (p : Nat) (F : Nat → Prop) (w : World) (h : DiskAt w F sb d) (hp : p < d.pages.length) (ha : d.acc < 1000000000) (hc : d.code = 0) :
    Calls Try.prog 20 #[.pointer (some ⟨sb, 0, none⟩), .int .i64 p] w (ReadOk sb d p F w) := by
  obtain ⟨pb, cap, mb, xs, es, clock, hd⟩ := h
  have c0 : w.cell? ⟨sb, 0, none⟩ = some (.slice (some ⟨pb, 0, none⟩) d.pages.length cap) := hd.blk.cell 0 _ rfl
  have hk : (decide (0 ≤ (p : Int)) && decide ((p : Int) < d.pages.length)) = true := by simp; omega
  have HK := Lib.hid hk
  have HP := Lib.hid hp
  have hacc := access_any sb _ _ d w hd.blk hd.acc0 ha hd.fail0 hd.fail1
  rw [show AccTo sb (.slice (some ⟨pb, 0, none⟩) d.pages.length cap) (.map (some mb)) d w = fun e w' => e = .returned (.int .i64 0) ∧ Blk w' sb 101 (DiskCells (.slice (some ⟨pb, 0, none⟩) d.pages.length cap) (.map (some mb)) d.hit.acc d.hit.fails d.down) ∧ Fr (fun b => b = sb) w w' from by unfold AccTo; rw [hc]] at hacc
  have HA := Lib.hid hacc
  have HD := Lib.hid hd
  have hout : ∀ (w1 : World) (v : Value) (w2 : World) (l : List Int), l = d.get p → Blk w1 sb 101 (DiskCells (.slice (some ⟨pb, 0, none⟩) d.pages.length cap) (.map (some mb)) d.hit.acc d.hit.fails d.down) → Fr (fun b => b = sb) w w1 → w2.ownsRow w1.heap.size 5 1 v 24 (nums l) → Below w1.heap.size w1 w2 →
      ReadOk sb d p F w (.returned (.tuple #[v, .int .i64 0])) w2 := by
    intro w1 v w2 l hl hb1 hf1 ho hbel
    subst hl
    refine ⟨v, rfl, ?_, (show DiskAt w1 F sb d.hit from ⟨pb, cap, mb, xs, es, clock, HD.out.hit hb1 hf1⟩).fr (Fr.of_below hbel (fun _ => False)) (fun _ _ h => h.elim), hf1.and_below hbel⟩
    refine ⟨ho.1, ?_⟩
    rcases ho.2 with h | ⟨g, cap, cur, hv, hg, r⟩
    · exact .inl h
    · exact .inr ⟨g, cap, cur, hv, Nat.le_trans hf1.size hg, r⟩
  have HO := Lib.hid hout
  clear hk hp hc hacc hd hout
  cases hw : d.waits p with
  | some l =>
    have hl : l = d.get p := by simp [Dk.get, hw]
    have hw2 : d.hit.waits p = some l := by rw [Dk.hit_waits]; exact hw
    have HW := Lib.hid hw2
    have HL := Lib.hid hl
    clear hw hw2 hl
    go_enter Try.func20, Try.ntmps20
    go_wp2_with (first | (go_at_call 60; refine (has_any _ _ _ _ _ _ c0).mono ?_; rintro e w' ⟨rfl, rfl⟩; rw [HK.out]) | (go_at_call 61; refine HA.out.mono ?_; rintro e w1 ⟨rfl, hb1, hf1⟩; have c1 : w1.cell? ⟨sb, 1, none⟩ = some (.map (some mb)) := hb1.cell 1 _ rfl; obtain ⟨g, cp, hlk, hcl⟩ := look_some (HD.out.hit hb1 hf1) HW.out) | (go_at_call 62; refine hcl.out.mono ?_; rintro e w2 ⟨v, rfl, ho, hbel⟩))
    go_ret2
    exact HO.out w1 v w2 l HL.out hb1 hf1 ho hbel
  | none =>
    have hl : d.hit.pages.getD p [] = d.get p := by simp [Dk.get, hw, Dk.hit_pages]
    have hw2 : d.hit.waits p = none := by rw [Dk.hit_waits]; exact hw
    have hp2 : p < d.hit.pages.length := by rw [Dk.hit_pages]; exact HP.out
    have hp3 : (p : Int) < (d.pages.length : Int) := by have := HP.out; omega
    have hp4 : (0 : Int) ≤ (p : Int) := by omega
    have HW := Lib.hid hw2
    have HL := Lib.hid hl
    have HP2 := Lib.hid hp2
    clear hw hw2 hl hp2
    go_enter Try.func20, Try.ntmps20
    go_wp2_with (first | (go_at_call 60; refine (has_any _ _ _ _ _ _ c0).mono ?_; rintro e w' ⟨rfl, rfl⟩; rw [HK.out]) | (go_at_call 61; refine HA.out.mono ?_; rintro e w1 ⟨rfl, hb1, hf1⟩; have c1 : w1.cell? ⟨sb, 1, none⟩ = some (.map (some mb)) := hb1.cell 1 _ rfl; have c10 : w1.cell? ⟨sb, 0, none⟩ = some (.slice (some ⟨pb, 0, none⟩) d.pages.length cap) := hb1.cell 0 _ rfl; have hlk := look_none (HD.out.hit hb1 hf1) HW.out; obtain ⟨g, cp, hpc, hcl⟩ := page_at (HD.out.hit hb1 hf1) HP2.out) | (go_at_call 62; refine hcl.out.mono ?_; rintro e w2 ⟨v, rfl, ho, hbel⟩))
    go_ret2
    exact HO.out w1 v w2 _ HL.out hb1 hf1 ho hbel
end Go.Proofs.Ytcapfahhoijblaa
