/- The methods of both devices, one contract each whatever the arguments. Conditions: each contract's premises. -/
import Derived.Test.YtcapfahhoijblaaSame
import Derived.Test.YtcapfahhoijblaaRNew
set_option linter.unusedVariables false
set_option linter.unusedSimpArgs false
set_option maxRecDepth 100000
namespace Go.Proofs.Ytcapfahhoijblaa
open Go.RowKit
/-- Is there such a page? -/
def Dk.has (d : Dk) (p : Int) : Bool := decide (0 ≤ p) && decide (p < d.pages.length)
def Dk.rcode (d : Dk) (p : Int) : Int := if d.has p then d.code else 1
def Dk.rtext (d : Dk) (p : Int) : List Int := if d.has p ∧ d.code = 0 then d.get p.toNat else []
def Dk.rnext (d : Dk) (p : Int) : Dk := if d.has p then d.hit else d
def Dk.wcode (d : Dk) (p : Int) (m : Nat) : Int := if d.has p ∧ m = 24 then d.code else 1
def Dk.wnext (d : Dk) (p : Int) (l : List Int) : Dk := if d.has p ∧ l.length = 24 then (if d.code = 0 then d.hit.put p.toNat l else d.hit) else d
def Dk.snext (d : Dk) : Dk := if d.code = 0 then d.hit.sync else d.hit
theorem has_true {d : Dk} {p : Int} (h : d.has p = true) : ∃ q : Nat, p = q ∧ q < d.pages.length := by
  simp only [Dk.has, Bool.and_eq_true, decide_eq_true_eq] at h
  obtain ⟨q, rfl⟩ := Int.eq_ofNat_of_zero_le h.1
  exact ⟨q, rfl, by omega⟩
theorem has_false {d : Dk} {p : Int} (h : ¬ d.has p = true) : p < 0 ∨ d.pages.length ≤ p := by
  simp only [Dk.has, Bool.and_eq_true, decide_eq_true_eq] at h
  omega
theorem hit_acc (d : Dk) : d.hit.acc ≤ d.acc + 1 := by
  unfold Dk.hit; split
  · omega
  · exact Int.le_refl _
theorem rnext_acc (d : Dk) (p : Int) : (d.rnext p).acc ≤ d.acc + 1 := by
  unfold Dk.rnext; split
  · exact hit_acc d
  · omega
theorem wnext_acc (d : Dk) (p : Int) (l : List Int) : (d.wnext p l).acc ≤ d.acc + 1 := by
  unfold Dk.wnext; split
  · split
    · exact hit_acc d
    · exact hit_acc d
  · omega
theorem snext_acc (d : Dk) : d.snext.acc ≤ d.acc + 1 := by
  unfold Dk.snext; split
  · exact hit_acc d
  · exact hit_acc d
theorem fail_acc (d : Dk) (n : Int) : (d.fail n).acc = d.acc := by unfold Dk.fail; split <;> rfl
theorem crash_acc (d : Dk) (b : List Int) : (d.crash b).acc = d.acc := by unfold Dk.crash; split <;> rfl
theorem rnext_len (d : Dk) (p : Int) : (d.rnext p).pages.length = d.pages.length := by
  unfold Dk.rnext; split
  · rw [Dk.hit_pages]
  · rfl
theorem wnext_len (d : Dk) (p : Int) (l : List Int) : (d.wnext p l).pages.length = d.pages.length := by
  unfold Dk.wnext; split
  · split
    · show d.hit.pages.length = _; rw [Dk.hit_pages]
    · rw [Dk.hit_pages]
  · rfl
theorem snext_len (d : Dk) : d.snext.pages.length = d.pages.length := by
  unfold Dk.snext; split
  · simp [Dk.sync, Dk.hit_pages]
  · rw [Dk.hit_pages]
theorem fail_len (d : Dk) (n : Int) : (d.fail n).pages.length = d.pages.length := by unfold Dk.fail; split <;> rfl
theorem crash_len (d : Dk) (b : List Int) : (d.crash b).pages.length = d.pages.length := by
  unfold Dk.crash; split
  · rfl
  · exact Dk.crashAt_length d b _
def ReadAll (sb : Nat) (d : Dk) (p : Int) (F : Nat → Prop) (w : World) (e : Ending) (w' : World) : Prop :=
  ∃ v, e = .returned (.tuple #[v, .int .i64 (d.rcode p)]) ∧ w'.ownsRow w.heap.size 5 1 v (d.rtext p).length (nums (d.rtext p)) ∧ DiskAt w' F sb (d.rnext p) ∧ Fr (fun b => b = sb) w w'
theorem own_nil8 (w : World) (base : Nat) : w.ownsRow base 5 1 (.slice none 0 0) ([] : List Int).length (nums []) := World.ownsRow_nil w _ _ _
theorem read_all (sb : Nat) (d : Dk) (p : Int) (F : Nat → Prop) (w : World) (h : DiskAt w F sb d) (ha : d.acc < 1000000000) :
    Calls Try.prog 20 #[.pointer (some ⟨sb, 0, none⟩), .int .i64 p] w (ReadAll sb d p F w) := by
  by_cases hp : d.has p = true
  · obtain ⟨q, rfl, hq⟩ := has_true hp
    by_cases hc : d.code = 0
    · have h24 : (d.get q).length = 24 := by
        obtain ⟨pb, cap, mb, xs, es, clock, hd⟩ := h
        cases hw : d.waits q with
        | some l =>
          obtain ⟨x, hx, hxk, hxi⟩ := hd.map.some_ hw
          have : d.get q = l := by simp [Dk.get, hw]
          rw [this]; exact hxi.2.1
        | none =>
          have hl : d.pages[q]? = some (d.pages.getD q []) := by simp [List.getD, hq]
          obtain ⟨v, hv, hi⟩ := hd.img q _ hl
          have : d.get q = d.pages.getD q [] := by simp [Dk.get, hw]
          rw [this]; exact hi.2.1
      have e1 : d.rcode q = 0 := by simp [Dk.rcode, hp, hc]
      have e2 : d.rtext q = d.get q := by simp [Dk.rtext, hp, hc]
      have e3 : d.rnext q = d.hit := by simp [Dk.rnext, hp]
      refine (read_ok sb d q F w h hq ha hc).mono ?_
      rintro e w' ⟨v, rfl, ho, hd, hf⟩
      unfold ReadAll
      rw [e1, e2, e3, h24]
      exact ⟨v, rfl, ho, hd, hf⟩
    · have e1 : d.rcode q = d.code := by simp [Dk.rcode, hp]
      have e2 : d.rtext q = [] := by simp [Dk.rtext, hc]
      have e3 : d.rnext q = d.hit := by simp [Dk.rnext, hp]
      refine (read_no sb d q F w h hq ha hc).mono ?_
      rintro e w' ⟨rfl, hd, hf⟩
      unfold ReadAll
      rw [e1, e2, e3]
      exact ⟨_, rfl, own_nil8 _ _, hd, hf⟩
  · have e1 : d.rcode p = 1 := by simp [Dk.rcode, hp]
    have e2 : d.rtext p = [] := by simp [Dk.rtext, hp]
    have e3 : d.rnext p = d := by simp [Dk.rnext, hp]
    refine (read_arg sb d p F w h (has_false hp)).mono ?_
    rintro e w' ⟨rfl, hd, hf⟩
    unfold ReadAll
    rw [e1, e2, e3]
    exact ⟨_, rfl, own_nil8 _ _, hd, hf⟩
theorem rread_all (sb : Nat) (d : Dk) (p : Int) (F : Nat → Prop) (w : World) (h : RDAt w F sb d) (ha : d.acc < 1000000000) :
    Calls Try.prog 21 #[.pointer (some ⟨sb, 0, none⟩), .int .i64 p] w (RReadTo sb (d.rnext p) (strOfNums (d.rtext p)) (d.rcode p) F w) := by
  by_cases hp : d.has p = true
  · obtain ⟨q, rfl, hq⟩ := has_true hp
    have e3 : d.rnext q = d.hit := by simp [Dk.rnext, hp]
    by_cases hc : d.code = 0
    · have e1 : d.rcode q = 0 := by simp [Dk.rcode, hp, hc]
      have e2 : d.rtext q = d.get q := by simp [Dk.rtext, hp, hc]
      rw [e1, e2, e3]
      exact rread_ok sb d q F w h hq ha hc
    · have e1 : d.rcode q = d.code := by simp [Dk.rcode, hp]
      have e2 : d.rtext q = [] := by simp [Dk.rtext, hc]
      rw [e1, e2, e3]
      exact rread_no sb d q F w h hq ha hc
  · have e1 : d.rcode p = 1 := by simp [Dk.rcode, hp]
    have e2 : d.rtext p = [] := by simp [Dk.rtext, hp]
    have e3 : d.rnext p = d := by simp [Dk.rnext, hp]
    rw [e1, e2, e3]
    exact rread_arg sb d p F w h (has_false hp)
def WriteAll (sb : Nat) (d : Dk) (p : Int) (l : List Int) (F : Nat → Prop) (w : World) (e : Ending) (w' : World) : Prop :=
  e = .returned (.int .i64 (d.wcode p l.length)) ∧ DiskAt w' (fun b => F b ∨ w.heap.size ≤ b) sb (d.wnext p l) ∧ Fr F w w'
theorem write_all (sb : Nat) (d : Dk) (p : Int) (A : Option Addr) (n c : Nat) (l : List Int) (F : Nat → Prop) (w : World) (h : DiskAt w F sb d) (ha : d.acc < 1000000000) (hl : l.length = n)
    (hcell : n = 24 → ∃ ad, A = some ad ∧ (∀ j u, (nums l)[j]? = some u → w.cell? (ad.add j) = some u) ∧ ad.block ≠ sb) :
    Calls Try.prog 22 #[.pointer (some ⟨sb, 0, none⟩), .int .i64 p, .slice A n c] w (WriteAll sb d p l F w) := by
  subst hl
  have hsb := h.own.1
  by_cases hp : d.has p = true ∧ l.length = 24
  · obtain ⟨hp, hl⟩ := hp
    obtain ⟨q, rfl, hq⟩ := has_true hp
    have e1 : d.wcode q l.length = d.code := by simp [Dk.wcode, hp, hl]
    obtain ⟨ad, rfl, hc24, had⟩ := hcell hl
    by_cases hc : d.code = 0
    · have e3 : d.wnext q l = d.hit.put q l := by simp [Dk.wnext, hp, hl, hc]
      unfold WriteAll
      rw [e1, e3, hc, hl]
      exact write_ok sb d q ad c l F w h hq ha hc hl hc24 had
    · have e3 : d.wnext q l = d.hit := by simp [Dk.wnext, hp, hl, hc]
      unfold WriteAll
      rw [e1, e3, hl]
      refine (write_no sb d q (some ad) c F w h hq ha hc).mono ?_
      rintro e w' ⟨rfl, hd, hf⟩
      exact ⟨rfl, hd.mono (fun _ _ h => .inl h), hf.mono (fun b _ e => e ▸ hsb)⟩
  · have e1 : d.wcode p l.length = 1 := by simp only [Dk.wcode]; rw [if_neg hp]
    have e3 : d.wnext p l = d := by simp only [Dk.wnext]; rw [if_neg hp]
    have hq : p < 0 ∨ d.pages.length ≤ p ∨ l.length ≠ 24 := by
      by_cases h1 : d.has p = true
      · exact .inr (.inr fun h2 => hp ⟨h1, h2⟩)
      · rcases has_false h1 with h1 | h1
        · exact .inl h1
        · exact .inr (.inl h1)
    unfold WriteAll
    rw [e1, e3]
    refine (write_arg sb d p A l.length c F w h hq).mono ?_
    rintro e w' ⟨rfl, hd, hf⟩
    exact ⟨rfl, hd.mono (fun _ _ h => .inl h), hf.mono (fun b _ e => e ▸ hsb)⟩
theorem rwrite_all (sb : Nat) (d : Dk) (p : Int) (l : List Int) (F : Nat → Prop) (w : World) (h : RDAt w F sb d) (ha : d.acc < 1000000000) (hl : l.length ≤ 1000000000) :
    Calls Try.prog 24 #[.pointer (some ⟨sb, 0, none⟩), .int .i64 p, .string (strOfNums l)] w (RWriteTo sb (d.wnext p l) (d.wcode p l.length) F w) := by
  by_cases hp : d.has p = true ∧ l.length = 24
  · obtain ⟨hp, hl⟩ := hp
    obtain ⟨q, rfl, hq⟩ := has_true hp
    have e1 : d.wcode q l.length = d.code := by simp [Dk.wcode, hp, hl]
    by_cases hc : d.code = 0
    · have e3 : d.wnext q l = d.hit.put q l := by simp [Dk.wnext, hp, hl, hc]
      rw [e1, e3, hc]
      exact rwrite_ok sb d q l F w h hq hl ha hc
    · have e3 : d.wnext q l = d.hit := by simp [Dk.wnext, hp, hl, hc]
      rw [e1, e3]
      exact rwrite_no sb d q _ F w h hq (by rw [strOfNums_size, hl]) ha hc
  · have e1 : d.wcode p l.length = 1 := by simp only [Dk.wcode]; rw [if_neg hp]
    have e3 : d.wnext p l = d := by simp only [Dk.wnext]; rw [if_neg hp]
    have hq : p < 0 ∨ d.pages.length ≤ p ∨ (strOfNums l).size ≠ 24 := by
      rw [strOfNums_size]
      by_cases h1 : d.has p = true
      · exact .inr (.inr fun h2 => hp ⟨h1, h2⟩)
      · rcases has_false h1 with h1 | h1
        · exact .inl h1
        · exact .inr (.inl h1)
    rw [e1, e3]
    exact rwrite_arg sb d p _ F w h hq (by rw [strOfNums_size]; omega)
theorem sync_all (sb : Nat) (d : Dk) (F : Nat → Prop) (w : World) (h : DiskAt w F sb d) (ha : d.acc < 1000000000) :
    Calls Try.prog 25 #[.pointer (some ⟨sb, 0, none⟩)] w fun e w' => e = .returned (.int .i64 d.code) ∧ DiskAt w' F sb d.snext ∧ Fr F w w' := by
  have hsb := h.own.1
  by_cases hc : d.code = 0
  · have e3 : d.snext = d.hit.sync := by simp [Dk.snext, hc]
    rw [e3, hc]
    exact sync_ok sb d F w h ha hc
  · have e3 : d.snext = d.hit := by simp [Dk.snext, hc]
    rw [e3]
    refine (sync_no sb d F w h ha hc).mono ?_
    rintro e w' ⟨rfl, hd, hf⟩
    exact ⟨rfl, hd, hf.mono (fun b _ e => e ▸ hsb)⟩
theorem rsync_all (sb : Nat) (d : Dk) (F : Nat → Prop) (w : World) (h : RDAt w F sb d) (ha : d.acc < 1000000000) :
    Calls Try.prog 26 #[.pointer (some ⟨sb, 0, none⟩)] w (RWriteTo sb d.snext d.code F w) := by
  by_cases hc : d.code = 0
  · have e3 : d.snext = d.hit.sync := by simp [Dk.snext, hc]
    rw [e3, hc]
    exact rsync_ok sb d F w h ha hc
  · have e3 : d.snext = d.hit := by simp [Dk.snext, hc]
    rw [e3]
    exact rsync_no sb d F w h ha hc
theorem crash_all (sb : Nat) (d : Dk) (bits : List Int) (A : Option Addr) (n c : Nat) (F : Nat → Prop) (w : World) (h : DiskAt w F sb d) (hn : bits.length = n) (hn2 : n ≤ 1000000)
    (hbits : ∀ i, i < n → ∃ bb bo, A = some ⟨bb, bo, none⟩ ∧ w.cell? ⟨bb, bo + i, none⟩ = some (.int .u8 (bits.getD i 0)) ∧ ¬ F bb) (hbyte : ∀ i, 0 ≤ bits.getD i 0 ∧ bits.getD i 0 ≤ 255) :
    Calls Try.prog 29 #[.pointer (some ⟨sb, 0, none⟩), .slice A n c] w (CrashTo sb d bits F w) := by
  cases hd : d.down with
  | false => exact crash_any sb d bits A n c F w h hd hn hn2 hbits hbyte
  | true =>
    refine (crash_down sb d _ F w h hd).mono ?_
    rintro e w' ⟨rfl, rfl⟩
    exact ⟨by rw [hd]; rfl, by rw [show d.crash bits = d by simp [Dk.crash, hd]]; exact h.mono (fun _ _ h => .inl h), Fr.refl _ _⟩
theorem rcrash_all (sb : Nat) (d : Dk) (bits : List Int) (A : Option Addr) (n c : Nat) (F : Nat → Prop) (w : World) (h : RDAt w F sb d) (hn : bits.length = n) (hn2 : n ≤ 1000000)
    (hbits : ∀ i, i < n → ∃ bb bo, A = some ⟨bb, bo, none⟩ ∧ w.cell? ⟨bb, bo + i, none⟩ = some (.int .u8 (bits.getD i 0)) ∧ ¬ F bb) (hbyte : ∀ i, 0 ≤ bits.getD i 0 ∧ bits.getD i 0 ≤ 255) :
    Calls Try.prog 30 #[.pointer (some ⟨sb, 0, none⟩), .slice A n c] w fun e w' => e = .returned (.bool (!d.down)) ∧ RDAt w' F sb (d.crash bits) ∧ Fr F w w' := by
  cases hd : d.down with
  | false => exact rcrash_any sb d bits A n c F w h hd hn hn2 hbits hbyte
  | true =>
    refine (rcrash_down sb d _ F w h hd).mono ?_
    rintro e w' ⟨rfl, rfl⟩
    exact ⟨rfl, by rw [show d.crash bits = d by simp [Dk.crash, hd]]; exact h, Fr.refl _ _⟩
end Go.Proofs.Ytcapfahhoijblaa
