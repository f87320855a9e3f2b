/- The reference's device: how it lies in memory; NewDisk. Conditions: each contract's premises. -/
import Derived.Test.YtcapfahhoijblaaDiskRw
import Derived.Test.YtcapfahhoijblaaDiskD
import Derived.Test.YtcapfahhoijblaaLate
import Derived.Laws.BytesArg
set_option linter.unusedVariables false
set_option linter.unusedSimpArgs false
set_option maxRecDepth 100000
namespace Go.Proofs.Ytcapfahhoijblaa
open Go.RowKit
/-- The cells of a list of texts; of truth values. -/
def strs (l : List (List Int)) : List Value := l.map fun b => .string (strOfNums b)
def boolv (l : List Bool) : List Value := l.map .bool
theorem strs_length (l : List (List Int)) : (strs l).length = l.length := by simp [strs]
theorem boolv_length (l : List Bool) : (boolv l).length = l.length := by simp [boolv]
theorem strs_get {l : List (List Int)} {i : Nat} {b : List Int} (h : l[i]? = some b) : (strs l)[i]? = some (.string (strOfNums b)) := by simp [strs, h]
theorem boolv_get {l : List Bool} {i : Nat} {b : Bool} (h : l[i]? = some b) : (boolv l)[i]? = some (.bool b) := by simp [boolv, h]
theorem strs_snoc (l : List (List Int)) (b : List Int) : strs l ++ [.string (strOfNums b)] = strs (l ++ [b]) := by simp [strs]
theorem boolv_snoc (l : List Bool) (b : Bool) : boolv l ++ [.bool b] = boolv (l ++ [b]) := by simp [boolv]
theorem Try.infoS : (Try.prog.info? 9).map (fun i => (i.zero, i.size, i.bytes)) = some (some (.string ⟨#[]⟩), 1, 16) := by kernel_rfl
theorem Try.infoB : (Try.prog.info? 4).map (fun i => (i.zero, i.size, i.bytes)) = some (some (.bool false), 1, 1) := by kernel_rfl
/-- The string of a slice of bytes whose cells are known. -/
theorem conv_at {w : World} {g o n c : Nat} {l : List Int} (hl : l.length = n) (hc : ∀ i, i < n → w.cell? ⟨g, o + i, none⟩ = some (.int .u8 (l.getD i 0))) {st : ByteArray} (hst : strOfNums l = st) :
    (convert 25 9 (.slice (some ⟨g, o, none⟩) n c)).run Try.prog w = .ok (.string st) w := by
  subst hst
  exact run_convert_bytes_arg w 25 5 Try.underlying25 Try.underlying5 g o n c l hl (fun i hi => hc i hi) 9 Try.underlying9
theorem rblank_any (w : World) : Calls Try.prog 47 #[] w fun e w' => e = .returned (.string (strOfNums zl)) ∧ Below w.heap.size w w' := by
  have hmk := mk24
  obtain ⟨st, hst⟩ : ∃ s, strOfNums zl = s := ⟨_, rfl⟩
  rw [hst]
  have hcv : (convert 25 9 (.slice (some ⟨w.heap.size, 0, none⟩) 24 24)).run Try.prog (w.alloc (.cells zeros24 5)) = .ok (.string st) (w.alloc (.cells zeros24 5)) := by
    refine conv_at (l := zl) rfl (fun i hi => ?_) hst
    have hb := Blk.new w 5 zeros24
    have : zeros24[i]? = some (.int .u8 (zl.getD i 0)) := by
      have := nums_get zl i hi
      rw [← zeros24_toList] at this
      simpa using this
    simpa using hb.cell i _ this
  have HST := Lib.hid hst
  clear hst
  go_enter Try.func47, Try.ntmps47
  go_wp2
  go_ret
  exact ⟨rfl, (Below.refl _ _).alloc (Nat.le_refl _) _⟩
/-- The three rows of the reference's device, while it is being made or changed. -/
structure Rows3 (B : Nat) (w0 w : World) (sb : Nat) (c0 c1 c2 n bad dead pv tv wv : Value) (n1 n2 n3 : Nat) (xs ys zs : List Value) : Prop where
  blk : Blk w sb 73 #[c0, c1, c2, n, bad, dead]
  o1 : w.ownsRow B 9 1 pv n1 xs
  o2 : w.ownsRow B 9 1 tv n2 ys
  o3 : w.ownsRow B 4 1 wv n3 zs
  ne : ∀ b, pv.ownBlock = some b → tv.ownBlock ≠ some b
  sB : B ≤ sb
  bel : Below B w0 w
  lb : B ≤ w0.heap.size
section
variable {B : Nat} {w0 w w' : World} {sb : Nat} {c0 c1 c2 n bad dead pv tv wv : Value} {n1 n2 n3 : Nat} {xs ys zs : List Value}
theorem Rows3.S (h : Rows3 B w0 w sb c0 c1 c2 n bad dead pv tv wv n1 n2 n3 xs ys zs) : w.cell? ⟨sb, 0, none⟩ = some c0 ∧ w.cell? ⟨sb, 1, none⟩ = some c1 ∧ w.cell? ⟨sb, 2, none⟩ = some c2 :=
  ⟨h.blk.cell 0 _ rfl, h.blk.cell 1 _ rfl, h.blk.cell 2 _ rfl⟩
theorem Rows3.below (h : Rows3 B w0 w sb c0 c1 c2 n bad dead pv tv wv n1 n2 n3 xs ys zs) (hb : Below w.heap.size w w') : Rows3 B w0 w' sb c0 c1 c2 n bad dead pv tv wv n1 n2 n3 xs ys zs :=
  have hf := Fr.of_below hb (fun _ => False)
  ⟨h.blk.fr hf (fun h => h), own_fr h.o1 hf (fun _ _ h => h), own_fr h.o2 hf (fun _ _ h => h), own_fr h.o3 hf (fun _ _ h => h), h.ne, h.sB, h.bel.trans (hb.mono (Nat.le_trans h.lb h.bel.size)), h.lb⟩
theorem Rows3.drew (h : Rows3 B w0 w sb c0 c1 c2 n bad dead pv tv wv n1 n2 n3 xs ys zs) : Rows3 B w0 w.drew sb c0 c1 c2 n bad dead pv tv wv n1 n2 n3 xs ys zs := h.below ((Below.refl _ _).drew)
theorem Rows3.alloc (h : Rows3 B w0 w sb c0 c1 c2 n bad dead pv tv wv n1 n2 n3 xs ys zs) (o : Obj) : Rows3 B w0 (w.alloc o) sb c0 c1 c2 n bad dead pv tv wv n1 n2 n3 xs ys zs := h.below ((Below.refl _ _).alloc (Nat.le_refl _) _)
theorem Rows3.new (h : Rows3 B w0 w sb c0 c1 c2 n bad dead pv tv wv n1 n2 n3 xs ys zs) (e : TypeId) (cs : Array Value) : Blk (w.alloc (.cells cs e)) w.heap.size e cs := Blk.new w e cs
theorem Rows3.up (h : Rows3 B w0 w sb c0 c1 c2 n bad dead pv tv wv n1 n2 n3 xs ys zs) : B ≤ w.heap.size := Nat.le_trans h.lb h.bel.size
theorem Rows3.app1 (h : Rows3 B w0 w sb c0 c1 c2 n bad dead pv tv wv n1 n2 n3 xs ys zs) {v : Value} {m : Nat} {us : List Value} (ho : w'.ownsRow B 9 1 v m us) (hg : w.grownBy w' pv.ownBlock) (hat : v.ownBlock = pv.ownBlock ∨ v.ownBlock = some w.heap.size) :
    Rows3 B w0 w' sb c0 c1 c2 n bad dead v tv wv m n2 n3 us ys zs := by
  have hf : Fr (fun b => pv.ownBlock = some b) w w' := (Fr.refl _ w).grown hg (fun k hk => .inl hk)
  refine ⟨h.blk.fr hf (fun hb => own_row_type h.o1 h.blk (by decide) _ hb rfl), ho, own_fr h.o2 hf (fun b hb hp => h.ne b hp hb), own_fr h.o3 hf (fun b hb hp => own_types h.o3 h.o1 (by decide) b hb hp), fun b hb ht => ?_, h.sB, h.bel.grown hg h.up (fun k hk => own_ge h.o1 k hk), h.lb⟩
  rcases hat with e | e <;> rw [e] at hb
  · exact h.ne b hb ht
  · have := own_size h.o2 b ht
    have : w.heap.size = b := by simpa using hb
    omega
theorem Rows3.app2 (h : Rows3 B w0 w sb c0 c1 c2 n bad dead pv tv wv n1 n2 n3 xs ys zs) {v : Value} {m : Nat} {us : List Value} (ho : w'.ownsRow B 9 1 v m us) (hg : w.grownBy w' tv.ownBlock) (hat : v.ownBlock = tv.ownBlock ∨ v.ownBlock = some w.heap.size) :
    Rows3 B w0 w' sb c0 c1 c2 n bad dead pv v wv n1 m n3 xs us zs := by
  have hf : Fr (fun b => tv.ownBlock = some b) w w' := (Fr.refl _ w).grown hg (fun k hk => .inl hk)
  refine ⟨h.blk.fr hf (fun hb => own_row_type h.o2 h.blk (by decide) _ hb rfl), own_fr h.o1 hf (fun b hb hp => h.ne b hb hp), ho, own_fr h.o3 hf (fun b hb hp => own_types h.o3 h.o2 (by decide) b hb hp), fun b hb ht => ?_, h.sB, h.bel.grown hg h.up (fun k hk => own_ge h.o2 k hk), h.lb⟩
  rcases hat with e | e <;> rw [e] at ht
  · exact h.ne b hb ht
  · have := own_size h.o1 b hb
    have : w.heap.size = b := by simpa using ht
    omega
theorem Rows3.app3 (h : Rows3 B w0 w sb c0 c1 c2 n bad dead pv tv wv n1 n2 n3 xs ys zs) {v : Value} {m : Nat} {us : List Value} (ho : w'.ownsRow B 4 1 v m us) (hg : w.grownBy w' wv.ownBlock) :
    Rows3 B w0 w' sb c0 c1 c2 n bad dead pv tv v n1 n2 m xs ys us := by
  have hf : Fr (fun b => wv.ownBlock = some b) w w' := (Fr.refl _ w).grown hg (fun k hk => .inl hk)
  exact ⟨h.blk.fr hf (fun hb => own_row_type h.o3 h.blk (by decide) _ hb rfl), own_fr h.o1 hf (fun b hb hp => own_types h.o1 h.o3 (by decide) b hb hp), own_fr h.o2 hf (fun b hb hp => own_types h.o2 h.o3 (by decide) b hb hp), ho, h.ne, h.sB, h.bel.grown hg h.up (fun k hk => own_ge h.o3 k hk), h.lb⟩
theorem Rows3.cell (h : Rows3 B w0 w sb c0 c1 c2 n bad dead pv tv wv n1 n2 n3 xs ys zs) (o : Nat) (v d0 d1 d2 d3 d4 d5 : Value) (hv : (#[c0, c1, c2, n, bad, dead] : Array Value).setIfInBounds o v = #[d0, d1, d2, d3, d4, d5]) :
    Rows3 B w0 (w.setCell ⟨sb, o, none⟩ v) sb d0 d1 d2 d3 d4 d5 pv tv wv n1 n2 n3 xs ys zs := by
  have hf : Fr (fun b => b = sb) w (w.setCell ⟨sb, o, none⟩ v) := (Fr.refl _ w).setCell _ _ (.inl rfl)
  have hb := h.blk.set o v
  rw [hv] at hb
  exact ⟨hb, own_fr h.o1 hf (fun b hb => own_row_type h.o1 h.blk (by decide) b hb), own_fr h.o2 hf (fun b hb => own_row_type h.o2 h.blk (by decide) b hb), own_fr h.o3 hf (fun b hb => own_row_type h.o3 h.blk (by decide) b hb), h.ne, h.sB, h.bel.setCell h.sB v, h.lb⟩
end
theorem size_alloc (w : World) (o : Obj) : (w.alloc o).heap.size = w.heap.size + 1 := by simp
theorem blk_one {w : World} {b : Nat} {e : TypeId} {u : Value} (h : Blk w b e #[u]) : ∀ j v, [u][j]? = some v → w.cell? ((⟨b, 0, none⟩ : Addr).add j) = some v := by
  intro j v hj
  have hadd : (⟨b, 0, none⟩ : Addr).add j = ⟨b, j, none⟩ := by unfold Addr.add; split <;> simp_all
  rw [hadd]
  exact h.cell j v (by simpa using hj)
/-- The document's device, as the reference has it in memory. -/
structure RDIs (w : World) (F : Nat → Prop) (sb : Nat) (d : Dk) (tl : List (List Int)) (wt : List Bool) (pb tb wb pc tc wc : Nat) : Prop where
  blk : Blk w sb 73 #[.slice (some ⟨pb, 0, none⟩) d.pages.length pc, .slice (some ⟨tb, 0, none⟩) d.pages.length tc, .slice (some ⟨wb, 0, none⟩) d.pages.length wc, .int .i64 d.acc, .int .i64 d.fails, .bool d.down]
  safe : w.ownsRow 0 9 1 (.slice (some ⟨pb, 0, none⟩) d.pages.length pc) d.pages.length (strs d.pages)
  tail : w.ownsRow 0 9 1 (.slice (some ⟨tb, 0, none⟩) d.pages.length tc) d.pages.length (strs tl)
  wait : w.ownsRow 0 4 1 (.slice (some ⟨wb, 0, none⟩) d.pages.length wc) d.pages.length (boolv wt)
  ne : pb ≠ tb
  fs : F sb
  fp : F pb
  ft : F tb
  fw : F wb
  some_ : 0 < d.pages.length
  few : d.pages.length ≤ 48
  acc0 : 0 ≤ d.acc
  fail0 : 0 ≤ d.fails
  fail1 : d.fails ≤ 1000000
  tls : d.down = false → tl = (List.range d.pages.length).map d.get
  wts : wt = (List.range d.pages.length).map fun i => (d.waits i).isSome
  l24 : ∀ l ∈ d.pages, l.length = 24
  t24 : ∀ i l, i < d.pages.length → d.waits i = some l → l.length = 24
def RDAt (w : World) (F : Nat → Prop) (sb : Nat) (d : Dk) : Prop := ∃ tl wt pb tb wb pc tc wc, RDIs w F sb d tl wt pb tb wb pc tc wc
theorem rnew_none (n : Int) (w : World) (h : n < 1 ∨ 48 < n) : Calls Try.prog 18 #[.int .i64 n] w fun e w' => e = .returned (.pointer none) ∧ w = w' := by
  rcases h with h | h
  · go_enter Try.func18, Try.ntmps18
    go_wp2
    go_ret
    exact ⟨rfl, rfl⟩
  · have h' : ¬ n < 1 := by omega
    go_enter Try.func18, Try.ntmps18
    go_wp2
    go_ret
    exact ⟨rfl, rfl⟩
def RNewTo (n : Nat) (w : World) (e : Ending) (w' : World) : Prop := ∃ sb, e = .returned (.pointer (some ⟨sb, 0, none⟩)) ∧ RDAt w' (fun b => w.heap.size ≤ b) sb (fresh n) ∧ w.heap.size ≤ sb ∧ Below w.heap.size w w'
def RNewRel (n : Nat) (w : World) (i : Value) (wr : World) : Prop := ∃ (k : Nat) (pv tv wv : Value), k ≤ n ∧ i = .int .i64 k ∧
  Rows3 w.heap.size w wr w.heap.size pv tv wv (.int .i64 0) (.int .i64 0) (.bool false) pv tv wv k k k (strs (List.replicate k zl)) (strs (List.replicate k zl)) (boolv (List.replicate k false))
theorem rnew_end {n k : Nat} {w wr : World} {pv tv wv : Value} (hkn : k = n) (h1 : 1 ≤ n) (h2 : n ≤ 48)
    (h : Rows3 w.heap.size w wr w.heap.size pv tv wv (.int .i64 0) (.int .i64 0) (.bool false) pv tv wv k k k (strs (List.replicate k zl)) (strs (List.replicate k zl)) (boolv (List.replicate k false))) :
    RNewTo n w (.returned (.pointer (some ⟨w.heap.size, 0, none⟩))) wr := by
  subst hkn
  obtain ⟨pb, pc, rfl, _⟩ := own_form h.o1 (by omega)
  obtain ⟨tb, tc, rfl, _⟩ := own_form h.o2 (by omega)
  obtain ⟨wb, wc, rfl, _⟩ := own_form h.o3 (by omega)
  refine ⟨_, rfl, ⟨List.replicate k zl, List.replicate k false, pb, tb, wb, pc, tc, wc, ?_⟩, Nat.le_refl _, h.bel⟩
  refine ⟨by simpa [fresh] using h.blk, by simpa [fresh] using own_base0 h.o1, by simpa [fresh] using own_base0 h.o2, by simpa [fresh] using own_base0 h.o3, fun e => h.ne pb rfl (by rw [e]; rfl), Nat.le_refl _, own_ge h.o1 _ rfl, own_ge h.o2 _ rfl, own_ge h.o3 _ rfl,
    by simp [fresh]; omega, by simpa [fresh] using h2, Int.le_refl _, Int.le_refl _, by simp [fresh], fun _ => ?_, ?_, ?_, ?_⟩
  · apply List.ext_getElem
    · simp [fresh]
    · intro i h1 h2
      simp only [List.length_replicate] at h1
      simp [fresh, Dk.get, h1]
  · apply List.ext_getElem <;> simp [fresh]
  · intro l hl; simp only [fresh, List.mem_replicate] at hl; rw [hl.2]; rfl
  · intro i l _ h; simp [fresh] at h
end Go.Proofs.Ytcapfahhoijblaa
