/- The methods of package disk's device, each by its contract. Conditions: each contract's premises. -/
import Derived.Test.YtcapfahhoijblaaDisk
import Derived.Test.YtcapfahhoijblaaMaps
set_option linter.unusedVariables false
set_option linter.unusedSimpArgs false
set_option maxRecDepth 100000
namespace Go.Proofs.Ytcapfahhoijblaa
open Go.RowKit
theorem Fr.at_ {sb : Nat} {a w : World} (h : Fr (fun b => b = sb) a w) (o : Nat) (v : Value) : Fr (fun b => b = sb) a (w.setCell ⟨sb, o, none⟩ v) := h.setCell _ _ (.inl rfl)

/-! ### An access -/
def Dk.code (d : Dk) : Int := if d.down then 12 else if d.fails = 1 then 9 else 0
def Dk.hit (d : Dk) : Dk := if d.down then d else { d with acc := d.acc + 1, fails := if 0 < d.fails then d.fails - 1 else d.fails }
def DiskCells (pv mv : Value) (acc fails : Int) (down : Bool) : Array Value := #[pv, mv, .int .i64 acc, .int .i64 fails, .bool down]
def AccTo (sb : Nat) (pv mv : Value) (d : Dk) (w : World) (e : Ending) (w' : World) : Prop :=
  e = .returned (.int .i64 d.code) ∧ Blk w' sb 101 (DiskCells pv mv d.hit.acc d.hit.fails d.down) ∧ Fr (fun b => b = sb) w w'
theorem has_any (sb : Nat) (n cap : Nat) (ao : Option Addr) (p : Int) (w : World) (h0 : w.cell? ⟨sb, 0, none⟩ = some (.slice ao n cap)) :
    Calls Try.prog 60 #[.pointer (some ⟨sb, 0, none⟩), .int .i64 p] w fun e w' => e = .returned (.bool (decide (0 ≤ p) && decide (p < n))) ∧ w = w' := by
  go_enter Try.func60, Try.ntmps60
  go_wp2
  · go_ret
    have h : 0 ≤ p := by assumption
    exact ⟨by simp [h], rfl⟩
  · go_ret
    have h : p < 0 := by assumption
    exact ⟨by rw [decide_eq_false (by omega)]; rfl, rfl⟩
theorem access_any (sb : Nat) (pv mv : Value) (d : Dk) (w : World) (hb : Blk w sb 101 (DiskCells pv mv d.acc d.fails d.down)) (ha : 0 ≤ d.acc) (ha' : d.acc < 1000000000) (hf : 0 ≤ d.fails) (hf' : d.fails ≤ 1000000) :
    Calls Try.prog 61 #[.pointer (some ⟨sb, 0, none⟩)] w (AccTo sb pv mv d w) := by
  obtain ⟨pages, waits, acc, fails, down⟩ := d
  have h2 : w.cell? ⟨sb, 2, none⟩ = some (.int .i64 acc) := hb.cell 2 _ rfl
  have h3 : w.cell? ⟨sb, 3, none⟩ = some (.int .i64 fails) := hb.cell 3 _ rfl
  have h4 : w.cell? ⟨sb, 4, none⟩ = some (.bool down) := hb.cell 4 _ rfl
  have f2 := hb.free 2
  have f3 := hb.free 3
  replace ha : 0 ≤ acc := ha
  replace ha' : acc < 1000000000 := ha'
  replace hf : 0 ≤ fails := hf
  replace hf' : fails ≤ 1000000 := hf'
  cases down with
  | true =>
    go_enter Try.func61, Try.ntmps61
    go_wp2
    go_ret
    exact ⟨rfl, hb, Fr.refl _ _⟩
  | false =>
    have hs := hb.set 2 (.int .i64 (acc + 1))
    by_cases h0 : fails = 0
    · subst h0
      go_enter Try.func61, Try.ntmps61
      go_wp2
      go_ret
      exact ⟨rfl, hs, (Fr.refl _ _).at_ _ _⟩
    · have hp : 0 < fails := by omega
      have hs2 := hs.set 3 (.int .i64 (fails - 1))
      have hh : (Dk.hit ⟨pages, waits, acc, fails, false⟩).fails = fails - 1 := by simp [Dk.hit, hp]
      by_cases h1 : fails = 1
      · subst h1
        go_enter Try.func61, Try.ntmps61
        go_wp2
        go_ret
        exact ⟨rfl, hs2, ((Fr.refl _ _).at_ _ _).at_ _ _⟩
      · have hc : (Dk.code ⟨pages, waits, acc, fails, false⟩) = 0 := by simp [Dk.code, h1]
        have HH := Lib.hid hh
        have HC := Lib.hid hc
        have H1 := Lib.hid h1
        have H0 := Lib.hid h0
        have hd : (fails - 1 == 0) = false := by simp; omega
        clear hh hc h1 h0
        go_enter Try.func61, Try.ntmps61
        go_wp2
        go_ret
        exact ⟨by rw [HC.out]; rfl, by rw [HH.out]; exact hs2, ((Fr.refl _ _).at_ _ _).at_ _ _⟩

/-! ### What stays -/
theorem Img.lt {w : World} {F : Nat → Prop} {v : Value} {l : List Int} (h : Img w F v l) : ∀ b, v.ownBlock = some b → b < w.heap.size := own_size h.1
theorem MapIs.move {w w' : World} {F G : Nat → Prop} {mb n : Nat} {wt : Nat → Option (List Int)} {es : Array MapEntry} {clock : Nat} (h : MapIs w F mb n wt es clock) (hf : Fr G w w') (hG : ¬ G mb) (hI : ∀ v l, Img w F v l → ∀ b, v.ownBlock = some b → ¬ G b) : MapIs w' F mb n wt es clock :=
  { heap := by rw [hf.block mb (heap_lt h.heap) hG]; exact h.heap
    ent := fun e he => by
      obtain ⟨p, l, h1, h2, h3, h4⟩ := h.ent e he
      exact ⟨p, l, h1, h2, h3.fr hf (hI _ _ h3), h4⟩
    has := h.has, keys := h.keys, born := h.born, old := h.old }
theorem DiskIs.move {w w' : World} {F G : Nat → Prop} {sb : Nat} {d : Dk} {pb cap mb : Nat} {xs : List Value} {es : Array MapEntry} {clock : Nat} (h : DiskIs w F sb d pb cap mb xs es clock) (hf : Fr G w w') (hG : ∀ b, b < w.heap.size → G b → b = sb ∨ ¬ F b)
    {acc fails : Int} {down : Bool} (hb : Blk w' sb 101 (DiskCells (.slice (some ⟨pb, 0, none⟩) d.pages.length cap) (.map (some mb)) acc fails down)) (ha : 0 ≤ acc) (hf0 : 0 ≤ fails) (hf1 : fails ≤ 1000000) :
    DiskIs w' F sb { d with acc := acc, fails := fails, down := down } pb cap mb xs es clock := by
  have hne : ∀ b, b < w.heap.size → F b → b ≠ sb → ¬ G b := fun b hb hF hs hg => by rcases hG b hb hg with h' | h'; exact hs h'; exact h' hF
  have hI : ∀ v l, Img w F v l → ∀ b, v.ownBlock = some b → ¬ G b := fun v l hi b hb => hne b (hi.lt b hb) (hi.2.2 b hb) (hi.type h.blk (by decide) b hb)
  refine { blk := hb, own := own_fr h.own hf ?_, img := ?_, map := h.map.move hf (hne mb (heap_lt h.map.heap) h.fm (Ne.symm (blk_map_ne h.blk h.map.heap))) hI, fs := h.fs, fp := h.fp, fm := h.fm, some_ := h.some_, few := h.few, acc0 := ha, fail0 := hf0, fail1 := hf1 }
  · intro b hb
    exact hne b (own_size h.own b hb) (by simp [Value.ownBlock] at hb; subst hb; exact h.fp) (own_row_type h.own h.blk (by decide) b hb)
  · intro i l hi
    obtain ⟨v, hv, hv2⟩ := h.img i l hi
    exact ⟨v, hv, hv2.fr hf (hI v l hv2)⟩
/-- A device is as it was where what has turned is not its own. -/
theorem DiskIs.fr {w w' : World} {F G : Nat → Prop} {sb : Nat} {d : Dk} {pb cap mb : Nat} {xs : List Value} {es : Array MapEntry} {clock : Nat} (h : DiskIs w F sb d pb cap mb xs es clock) (hf : Fr G w w') (hG : ∀ b, b < w.heap.size → G b → ¬ F b) : DiskIs w' F sb d pb cap mb xs es clock :=
  h.move hf (fun b hb hg => .inr (hG b hb hg)) (h.blk.fr hf (fun hg => hG sb h.blk.lt hg h.fs)) h.acc0 h.fail0 h.fail1
theorem DiskAt.fr {w w' : World} {F G : Nat → Prop} {sb : Nat} {d : Dk} (h : DiskAt w F sb d) (hf : Fr G w w') (hG : ∀ b, b < w.heap.size → G b → ¬ F b) : DiskAt w' F sb d := by
  obtain ⟨pb, cap, mb, xs, es, clock, h⟩ := h
  exact ⟨pb, cap, mb, xs, es, clock, h.fr hf hG⟩
theorem Img.mono' {w : World} {F G : Nat → Prop} {v : Value} {l : List Int} (h : Img w F v l) (hg : ∀ b, b < w.heap.size → F b → G b) : Img w G v l := ⟨h.1, h.2.1, fun b hb => hg b (h.lt b hb) (h.2.2 b hb)⟩
theorem DiskIs.mono {w : World} {F G : Nat → Prop} {sb : Nat} {d : Dk} {pb cap mb : Nat} {xs : List Value} {es : Array MapEntry} {clock : Nat} (h : DiskIs w F sb d pb cap mb xs es clock) (hg : ∀ b, b < w.heap.size → F b → G b) : DiskIs w G sb d pb cap mb xs es clock := by
  refine { blk := h.blk, own := h.own, img := fun i l hi => ?_, map := { heap := h.map.heap, ent := fun e he => ?_, has := h.map.has, keys := h.map.keys, born := h.map.born, old := h.map.old }, fs := hg sb h.blk.lt h.fs, fp := hg pb (own_size h.own pb rfl) h.fp, fm := hg mb (heap_lt h.map.heap) h.fm, some_ := h.some_, few := h.few, acc0 := h.acc0, fail0 := h.fail0, fail1 := h.fail1 }
  · obtain ⟨v, hv, hv2⟩ := h.img i l hi
    exact ⟨v, hv, hv2.mono' hg⟩
  · obtain ⟨p, l, h1, h2, h3, h4⟩ := h.map.ent e he
    exact ⟨p, l, h1, h2, h3.mono' hg, h4⟩
theorem DiskAt.mono {w : World} {F G : Nat → Prop} {sb : Nat} {d : Dk} (h : DiskAt w F sb d) (hg : ∀ b, b < w.heap.size → F b → G b) : DiskAt w G sb d := by
  obtain ⟨pb, cap, mb, xs, es, clock, h⟩ := h
  exact ⟨pb, cap, mb, xs, es, clock, h.mono hg⟩
/-- Behind an access. -/
theorem Dk.hit_eq (d : Dk) : d.hit = { d with acc := d.hit.acc, fails := d.hit.fails, down := d.down } := by
  obtain ⟨pages, waits, acc, fails, down⟩ := d
  cases down <;> simp [Dk.hit]
theorem Dk.hit_bd (d : Dk) (ha : 0 ≤ d.acc) (h0 : 0 ≤ d.fails) (h1 : d.fails ≤ 1000000) : 0 ≤ d.hit.acc ∧ 0 ≤ d.hit.fails ∧ d.hit.fails ≤ 1000000 := by
  obtain ⟨pages, waits, acc, fails, down⟩ := d
  cases down
  · simp only [Dk.hit] at *
    refine ⟨by simp; omega, ?_, ?_⟩ <;> simp <;> split <;> omega
  · exact ⟨ha, h0, h1⟩
theorem DiskIs.hit {w w' : World} {F : Nat → Prop} {sb : Nat} {d : Dk} {pb cap mb : Nat} {xs : List Value} {es : Array MapEntry} {clock : Nat} (h : DiskIs w F sb d pb cap mb xs es clock)
    (hb : Blk w' sb 101 (DiskCells (.slice (some ⟨pb, 0, none⟩) d.pages.length cap) (.map (some mb)) d.hit.acc d.hit.fails d.down)) (hf : Fr (fun b => b = sb) w w') : DiskIs w' F sb d.hit pb cap mb xs es clock := by
  obtain ⟨a, b, c⟩ := d.hit_bd h.acc0 h.fail0 h.fail1
  have := h.move hf (fun _ _ h => .inl h) hb a b c
  rw [← Dk.hit_eq] at this
  exact this
end Go.Proofs.Ytcapfahhoijblaa
