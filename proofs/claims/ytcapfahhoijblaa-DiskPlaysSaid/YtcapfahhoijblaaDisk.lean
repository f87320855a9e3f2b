/- The device of package disk: how it lies in memory, and the contracts of its methods. Conditions: each contract's premises. -/
import Derived.Test.YtcapfahhoijblaaBase
import Derived.Deep.RegionLaw
set_option linter.unusedVariables false
set_option linter.unusedSimpArgs false
set_option maxRecDepth 100000
namespace Go.Proofs.Ytcapfahhoijblaa
open Go.RowKit

/-- The cells of a list of bytes. -/
def nums (l : List Int) : List Value := l.map (Value.int .u8)
theorem nums_length (l : List Int) : (nums l).length = l.length := by simp [nums]
theorem nums_one (l : List Int) : ∀ u ∈ nums l, u.oneCell' = true := by
  intro u hu; simp only [nums, List.mem_map] at hu; obtain ⟨_, _, rfl⟩ := hu; rfl
theorem nums_get (l : List Int) (j : Nat) (h : j < l.length) : (nums l)[j]? = some (.int .u8 (l.getD j 0)) := by
  simp [nums, List.getD, h]

theorem Try.info5 : (Try.prog.info? 5).map (fun i => (i.zero, i.size, i.bytes)) = some (some (.int .u8 0), 1, 1) := by kernel_rfl
theorem Try.info25 : (Try.prog.info? 25).map (fun i => (i.zero, i.size, i.bytes)) = some (some (.slice none 0 0), 1, 24) := by kernel_rfl

def zeros24 : Array Value := Array.replicate 24 (.int .u8 0)
def zl : List Int := List.replicate 24 0
theorem zeros24_toList : zeros24.toList = nums zl := by rfl
theorem mk24 : ∀ w : World, (Instr.makeSlice 25 (.int .i64 24) (.int .i64 24)).run Try.prog w = .ok (.slice (some ⟨w.heap.size, 0, none⟩) 24 24) (w.alloc (.cells zeros24 5)) := fun _ => by kernel_rfl
theorem blank_any (w : World) : Calls Try.prog 48 #[] w fun e w' => e = .returned (.slice (some ⟨w.heap.size, 0, none⟩) 24 24) ∧ w' = w.alloc (.cells zeros24 5) := by
  have hmk := mk24
  go_enter Try.func48, Try.ntmps48
  go_wp2
  go_ret
  exact ⟨rfl, rfl⟩
def CloneTo (n : Nat) (xs : List Value) (w : World) (e : Ending) (w' : World) : Prop := ∃ v, e = .returned v ∧ w'.ownsRow w.heap.size 5 1 v n xs ∧ Below w.heap.size w w'
theorem clone_any (ad : Addr) (n c : Nat) (xs : List Value) (w : World) (hl : xs.length = n) (hn : n ≤ 140737488355328) (hc : ∀ j u, xs[j]? = some u → w.cell? (ad.add j) = some u) (h1 : ∀ u ∈ xs, u.oneCell' = true) :
   Calls Try.prog 62 #[.slice (some ad) n c] w (CloneTo n xs w) := by
  have hq := fun w : World => Lib.run_eql_slice_nil (P := Try.prog) w 25 5 (some ad) n c 0 0 Try.underlying25
  have H1 := Lib.hid h1
  have HC := Lib.hid hc
  have HL := Lib.hid hl
  clear hc hl h1
  go_enter Try.func62, Try.ntmps62
  go_wp2_with (at_builtin; refine wpList_ap w.heap.size rfl _ _ 25 5 (.int .u8 0) 1 1 rfl Try.underlying25 Try.info5 rfl (by omega) _ 0 [] rfl (own_lit' w 5 1 #[] 0 rfl (by simp [maxLen])) _ _ _ xs rfl ?hl ?hc ?h1 ?hb (by omega) (by simp) ?_)
  case hl => simpa using HL.out
  case hc => exact fun _ => ⟨ad, rfl, fun j u hj => cell_alloc (HC.out j u hj) _⟩
  case h1 => exact H1.out
  case hb => omega
  intro v' w1 ho hg hv
  go_wp2
  go_ret
  exact ⟨v', rfl, by simpa using ho, ((Below.refl _ _).alloc (Nat.le_refl _) _).grown hg (by simp) (by simp [Value.ownBlock])⟩

/-- An image of a page: a row of 24 bytes, in a block of F. -/
def Img (w : World) (F : Nat → Prop) (v : Value) (l : List Int) : Prop := w.ownsRow 0 5 1 v 24 (nums l) ∧ l.length = 24 ∧ ∀ b, v.ownBlock = some b → F b
/-- A device as the document has it. -/
structure Dk where
  pages : List (List Int)
  waits : Nat → Option (List Int)
  acc : Int
  fails : Int
  down : Bool
/-- The pages that wait, in the block of a map. -/
structure MapIs (w : World) (F : Nat → Prop) (mb n : Nat) (wt : Nat → Option (List Int)) (es : Array MapEntry) (clock : Nat) : Prop where
  heap : w.heap[mb]? = some (.map es clock)
  ent : ∀ e ∈ es.toList, ∃ (p : Nat) (l : List Int), p < n ∧ e.key = .int .i64 (p : Int) ∧ Img w F e.val l ∧ wt p = some l
  has : ∀ p l, wt p = some l → ∃ e ∈ es.toList, e.key = .int .i64 ((p : Nat) : Int)
  keys : es.toList.Pairwise fun a b => a.key ≠ b.key
  born : es.toList.Pairwise fun a b => a.born < b.born
  old : ∀ e ∈ es.toList, e.born < clock
structure DiskIs (w : World) (F : Nat → Prop) (sb : Nat) (d : Dk) (pb cap mb : Nat) (xs : List Value) (es : Array MapEntry) (clock : Nat) : Prop where
  blk : Blk w sb 101 #[.slice (some ⟨pb, 0, none⟩) d.pages.length cap, .map (some mb), .int .i64 d.acc, .int .i64 d.fails, .bool d.down]
  own : w.ownsRow 0 25 1 (.slice (some ⟨pb, 0, none⟩) d.pages.length cap) d.pages.length xs
  img : ∀ (i : Nat) (l : List Int), d.pages[i]? = some l → ∃ v, xs[i]? = some v ∧ Img w F v l
  map : MapIs w F mb d.pages.length d.waits es clock
  fs : F sb
  fp : F pb
  fm : F mb
  some_ : 0 < d.pages.length
  few : d.pages.length ≤ 48
  acc0 : 0 ≤ d.acc
  fail0 : 0 ≤ d.fails
  fail1 : d.fails ≤ 1000000
def DiskAt (w : World) (F : Nat → Prop) (sb : Nat) (d : Dk) : Prop := ∃ pb cap mb xs es clock, DiskIs w F sb d pb cap mb xs es clock
theorem new_none (n : Int) (w : World) (h : n < 1 ∨ 48 < n) : Calls Try.prog 17 #[.int .i64 n] w fun e w' => e = .returned (.pointer none) ∧ w = w' := by
  rcases h with h | h
  · go_enter Try.func17, Try.ntmps17
    go_wp2
    go_ret
    exact ⟨rfl, rfl⟩
  · have h' : ¬ n < 1 := by omega
    go_enter Try.func17, Try.ntmps17
    go_wp2
    go_ret
    exact ⟨rfl, rfl⟩
def fresh (n : Nat) : Dk := { pages := List.replicate n zl, waits := fun _ => none, acc := 0, fails := 0, down := false }

def NewTo (n : Nat) (w : World) (e : Ending) (w' : World) : Prop := ∃ sb, e = .returned (.pointer (some ⟨sb, 0, none⟩)) ∧ DiskAt w' (fun b => w.heap.size ≤ b) sb (fresh n) ∧ w.heap.size ≤ sb ∧ Below w.heap.size w w'
def NewRel (n : Nat) (w : World) (i : Value) (wr : World) : Prop := ∃ (k : Nat) (pv : Value) (xs : List Value), k ≤ n ∧ i = .int .i64 k ∧ Blk wr (w.heap.size + 1) 101 #[pv, .map (some w.heap.size), .int .i64 0, .int .i64 0, .bool false] ∧
  wr.heap[w.heap.size]? = some (.map #[] 0) ∧ wr.ownsRow (w.heap.size + 2) 25 1 pv k xs ∧ (∀ v ∈ xs, Img wr (fun b => w.heap.size ≤ b) v zl) ∧ Below w.heap.size w wr
theorem Img.mono {w : World} {F G : Nat → Prop} {v : Value} {l : List Int} (h : Img w F v l) (hg : ∀ b, F b → G b) : Img w G v l := ⟨h.1, h.2.1, fun b hb => hg b (h.2.2 b hb)⟩
theorem Img.fr {w w' : World} {F G : Nat → Prop} {v : Value} {l : List Int} (h : Img w F v l) (hf : Fr G w w') (hn : ∀ b, v.ownBlock = some b → ¬ G b) : Img w' F v l := ⟨own_fr h.1 hf hn, h.2⟩
theorem Img.type {w : World} {F : Nat → Prop} {v : Value} {l : List Int} (h : Img w F v l) {b : Nat} {e : TypeId} {cs : Array Value} (hb : Blk w b e cs) (he : (5 : TypeId) ≠ e) : ∀ k, v.ownBlock = some k → k ≠ b := own_row_type h.1 hb he
theorem Img.zero (W : World) (F : Nat → Prop) (hF : F W.heap.size) : Img (W.alloc (.cells zeros24 5)) F (.slice (some ⟨W.heap.size, 0, none⟩) 24 24) zl := by
  refine ⟨?_, rfl, fun b hb => ?_⟩
  · have := own_base0 (own_lit' W 5 1 zeros24 24 rfl (by simp [maxLen]))
    rwa [zeros24_toList] at this
  · simp [Value.ownBlock] at hb; subst hb; exact hF
/-- The owned row of another element type is another block. -/
theorem Img.own_ne {w : World} {F : Nat → Prop} {v pv : Value} {l : List Int} {base size n : Nat} {e : TypeId} {xs : List Value} (h : Img w F v l) (ho : w.ownsRow base e size pv n xs) (he : (5 : TypeId) ≠ e) : ∀ k, v.ownBlock = some k → pv.ownBlock ≠ some k := by
  intro k hk hp
  rcases ho.2 with ⟨rfl, _⟩ | ⟨g, cap, cur, rfl, _, hh, _⟩
  · simp [Value.ownBlock] at hp
  · have : g = k := by simpa [Value.ownBlock] using hp
    subst this
    exact own_row_type h.1 (cs := cur) hh he g hk rfl
theorem new_step {n : Nat} {w wr w1 : World} {k : Nat} {pv : Value} {xs : List Value} {g cap : Nat} (hk : k ≤ n) (hlt : k < n) (hblk : Blk wr (w.heap.size + 1) 101 #[pv, .map (some w.heap.size), .int .i64 0, .int .i64 0, .bool false])
    (hmap : wr.heap[w.heap.size]? = some (.map #[] 0)) (hown : wr.ownsRow (w.heap.size + 2) 25 1 pv k xs) (himg : ∀ v ∈ xs, Img wr (fun b => w.heap.size ≤ b) v zl) (hbel : Below w.heap.size w wr)
    (ho : w1.ownsRow (w.heap.size + 2) 25 1 (.slice (some ⟨g, 0, none⟩) (k + 1) cap) (k + 1) (xs ++ [.slice (some ⟨wr.heap.size, 0, none⟩) 24 24]))
    (hg : (wr.drew.alloc (.cells zeros24 5)).grownBy w1 pv.ownBlock) (hat : pv.ownBlock = some g ∨ (wr.drew.alloc (.cells zeros24 5)).heap.size ≤ g) :
    NewRel n w (.int .i64 ((k : Int) + 1)) (w1.setCell ⟨w.heap.size + 1, 0, none⟩ (.slice (some ⟨g, 0, none⟩) (k + 1) cap)) := by
  have hsz := hblk.lt
  have hge := own_ge hown
  have hgg := own_ge ho g rfl
  have hne : some (w.heap.size + 1) ≠ pv.ownBlock := fun e => by have := hge _ e.symm; omega
  have hne0 : some w.heap.size ≠ pv.ownBlock := fun e => by have := hge _ e.symm; omega
  -- the frame from wr to the end: the row, and the struct
  have hfr : Fr (fun b => some b = pv.ownBlock ∨ b = w.heap.size + 1) wr (w1.setCell ⟨w.heap.size + 1, 0, none⟩ (.slice (some ⟨g, 0, none⟩) (k + 1) cap)) :=
    ((((Fr.refl _ wr).drew.alloc _).grown hg (fun b hb => .inl (.inl hb.symm)))).setCell _ _ (.inl (.inr rfl))
  have hb1 := (((hblk.drew).alloc (.cells zeros24 5)).grown hg hne).set 0 (.slice (some ⟨g, 0, none⟩) (k + 1) cap)
  refine ⟨k + 1, .slice (some ⟨g, 0, none⟩) (k + 1) cap, xs ++ [.slice (some ⟨wr.heap.size, 0, none⟩) 24 24], hlt, by simp, hb1, ?_, ?_, ?_, ?_⟩
  · rw [hfr.block _ (by omega) (by rintro (h | h); exact hne0 h; omega)]; exact hmap
  · exact own_fr ho ((Fr.refl (fun b => b = w.heap.size + 1) w1).setCell _ _ (.inl rfl)) (fun b hb => by simp [Value.ownBlock] at hb; omega)
  · intro v hv
    rcases List.mem_append.1 hv with hv | hv
    · refine (himg v hv).fr hfr ?_
      rintro b hb (h | h)
      · exact (himg v hv).own_ne hown (by decide) b hb h.symm
      · exact (himg v hv).type hblk (by decide) b hb h
    · simp only [List.mem_singleton] at hv; subst hv
      have hz := Img.zero wr.drew (fun b => w.heap.size ≤ b) (by show w.heap.size ≤ wr.heap.size; omega)
      refine hz.fr (((Fr.refl (fun b => some b = pv.ownBlock ∨ b = w.heap.size + 1) _).grown hg (fun b hb => .inl (.inl hb.symm))).setCell _ _ (.inl (.inr rfl))) ?_
      intro b hb h
      have hbb : wr.heap.size = b := by simpa [Value.ownBlock] using hb
      rcases h with h | h
      · have := own_size hown b h.symm; omega
      · omega
  · exact hbel.trans (hfr.below (by omega) (fun b hb h => by
      rcases h with h | h
      · have := hge b h.symm; omega
      · omega))
theorem new_end {n : Nat} {w wr : World} {k : Nat} {pv : Value} {xs : List Value} (hkn : k = n) (hblk : Blk wr (w.heap.size + 1) 101 #[pv, .map (some w.heap.size), .int .i64 0, .int .i64 0, .bool false])
    (hmap : wr.heap[w.heap.size]? = some (.map #[] 0)) (hown : wr.ownsRow (w.heap.size + 2) 25 1 pv k xs) (himg : ∀ v ∈ xs, Img wr (fun b => w.heap.size ≤ b) v zl) (hbel : Below w.heap.size w wr) (h1 : 1 ≤ n) (h2 : n ≤ 48) :
    NewTo n w (.returned (.pointer (some ⟨w.heap.size + 1, 0, none⟩))) wr := by
  subst hkn
  obtain ⟨g, cap, rfl, hc, _⟩ := own_form hown (by omega)
  have hgg := own_ge hown g rfl
  have hl : xs.length = k := by have := hown.1; omega
  refine ⟨w.heap.size + 1, rfl, ⟨g, cap, w.heap.size, xs, #[], 0, ?_⟩, by omega, hbel⟩
  refine { blk := by simpa [fresh] using hblk, own := by simpa [fresh] using own_base0 hown, img := ?_, map := ⟨hmap, by simp, by simp [fresh], by simp, by simp, by simp⟩, fs := by omega, fp := by omega, fm := Nat.le_refl _, some_ := by simp [fresh]; omega, few := by simpa [fresh] using h2, acc0 := Int.le_refl _, fail0 := Int.le_refl _, fail1 := by simp [fresh] }
  intro i l hi
  have hi' : i < k ∧ l = zl := by
    simp only [fresh, List.getElem?_replicate] at hi
    split at hi
    · exact ⟨by assumption, by simpa using hi.symm⟩
    · cases hi
  obtain ⟨hi1, rfl⟩ := hi'
  exact ⟨xs[i], by simp [hl, hi1], himg _ (List.getElem_mem _)⟩
set_option maxHeartbeats 1000000 in
theorem new_any (n : Nat) (w : World) (h1 : 1 ≤ n) (h2 : n ≤ 48) : Calls Try.prog 17 #[.int .i64 n] w (NewTo n w) := by
  have hmm := @run_makeMap Try.prog
  have hn0 : ¬ (n : Int) < 1 := by omega
  have hn1 : ¬ (48 : Int) < (n : Int) := by omega
  go_enter Try.func17, Try.ntmps17
  go_wp2
  go_loopw [14] (fun i wr => NewRel n w i wr) (fun i _ => n - (intOf i).toNat)
  case atStart => 
    refine ⟨0, .slice none 0 0, [], Nat.zero_le _, rfl, ?_, ?_, World.ownsRow_nil _ _ _ _, by simp, ((Below.refl _ _).alloc (Nat.le_refl _) _).alloc (by simp) _⟩
    · have := Blk.new (w.alloc (.map #[] 0)) 101 #[.slice none 0 0, .map (some w.heap.size), .int .i64 0, .int .i64 0, .bool false]
      simpa using this
    · rw [Below.heap_alloc _ _ _ (by simp)]; exact heap_alloc_new w _
  case round => 
    obtain ⟨k, pv, xs, hk, rfl, hblk, hmap, hown, himg, hbel⟩ := hrel
    have hc := hblk.cell 0 pv rfl
    have hf := hblk.free 0
    have hsz := hblk.lt
    have hne : some (w.heap.size + 1) ≠ pv.ownBlock := fun e => by have := own_ge hown _ e.symm; omega
    have hca : ∀ o, (wr.alloc o).cell? ⟨w.heap.size + 1, 0, none⟩ = some pv := fun o => cell_alloc hc o
    have hcaa : ∀ o o', ((wr.alloc o).alloc o').cell? ⟨w.heap.size + 1, 0, none⟩ = some pv := fun o o' => cell_alloc (hca o) o'
    by_cases hlt : k < n
    · go_wp2_with fail
      go_region_law (first | (refine step_ap1 (w.heap.size + 2) rfl _ _ 38 25 (.slice none 0 0) 1 24 rfl Try.underlying38 Try.info25 rfl (by omega) pv k xs rfl ((hown.drew).alloc _) [.slice (some ⟨wr.heap.size, 0, none⟩) 24 24] _ rfl (by simp) rfl (by simp [Value.oneCell']) (by omega) (by omega) (by simp; omega) ?_; intro g cap w1 ho hg hat; have hb1 := ((hblk.drew).alloc (.cells zeros24 5)).grown hg hne; have hf1 := hb1.free 0; have hc1 := hb1.cell 0 pv rfl) | (go_simp; go_at_call 48; refine (blank_any _).mono ?_; rintro e w' ⟨rfl, rfl⟩))
      all_goals go_wp2
      all_goals exact ⟨new_step hk hlt hblk hmap hown himg hbel ho hg hat, by simp [intOf]; omega⟩
    · have hkn : k = n := by omega
      go_wp2
      go_ret
      exact new_end hkn hblk hmap hown himg hbel h1 h2
end Go.Proofs.Ytcapfahhoijblaa
