/- DiskPlays: the walk. No condition but that the slice is a row of steps. -/
import Derived.Test.YtcapfahhoijblaaAllOps
import Derived.Test.YtcapfahhoijblaaRead60
import Derived.Deep.CutRange
import Derived.Deep.RegionLaw
import Derived.Deep.RegionHeld3
set_option linter.unusedVariables false
set_option linter.unusedSimpArgs false
set_option maxRecDepth 100000
namespace Go.Proofs.Ytcapfahhoijblaa
open Go.RowKit
/-- The two devices, side by side. -/
structure PAt (B : Nat) (w0 w : World) (F G : Nat → Prop) (sb rb : Nat) (d e : Dk) : Prop where
  at_ : DiskAt w F sb d
  rt : RDAt w G rb e
  dis : ∀ b, F b → ¬ G b
  loF : ∀ b, F b → B ≤ b
  loG : ∀ b, G b → B ≤ b
  hiF : ∀ b, F b → b < w.heap.size
  hiG : ∀ b, G b → b < w.heap.size
  bel : Below B w0 w
  lb : B ≤ w0.heap.size
/-- A step that came in, in a block of its own. -/
structure Box (w : World) (F G : Nat → Prop) (ob : Nat) (cs : Array Value) : Prop where
  blk : Blk w ob 59 cs
  nF : ¬ F ob
  nG : ¬ G ob
section
variable {B : Nat} {w0 w w1 : World} {F G F1 G1 X : Nat → Prop} {sb rb ob : Nat} {d e d1 e1 : Dk} {cs : Array Value}
theorem PAt.up (h : PAt B w0 w F G sb rb d e) : B ≤ w.heap.size := Nat.le_trans h.lb h.bel.size
theorem PAt.dstep (h : PAt B w0 w F G sb rb d e) (h1 : DiskAt w1 F1 sb d1) (hf : Fr X w w1) (hX : ∀ b, b < w.heap.size → X b → F b) (hF : ∀ b, F1 b → F b ∨ w.heap.size ≤ b) : PAt B w0 w1 (fun b => F1 b ∧ b < w1.heap.size) G sb rb d1 e := by
  refine ⟨h1.bound, h.rt.fr hf (fun b hb hx hg => h.dis b (hX b hb hx) hg), fun b hb hg => ?_, fun b hb => ?_, h.loG, fun b hb => hb.2, fun b hg => Nat.lt_of_lt_of_le (h.hiG b hg) hf.size, h.bel.trans (hf.below h.up (fun b hb hx => ?_)), h.lb⟩
  · rcases hF b hb.1 with h' | h'
    · exact h.dis b h' hg
    · have := h.hiG b hg; omega
  · rcases hF b hb.1 with h' | h'
    · exact h.loF b h'
    · exact Nat.le_trans h.up h'
  · have := h.loF b (hX b (Nat.lt_of_lt_of_le hb h.up) hx); omega
theorem PAt.rstep (h : PAt B w0 w F G sb rb d e) (h1 : RDAt w1 G1 rb e1) (hf : Fr X w w1) (hX : ∀ b, b < w.heap.size → X b → G b) (hG : ∀ b, G1 b → G b ∨ w.heap.size ≤ b) : PAt B w0 w1 F (fun b => G1 b ∧ b < w1.heap.size) sb rb d e1 := by
  refine ⟨h.at_.fr hf (fun b hb hx hg => h.dis b hg (hX b hb hx)), h1.bound, fun b hg hb => ?_, h.loF, fun b hb => ?_, fun b hg => Nat.lt_of_lt_of_le (h.hiF b hg) hf.size, fun b hb => hb.2, h.bel.trans (hf.below h.up (fun b hb hx => ?_)), h.lb⟩
  · rcases hG b hb.1 with h' | h'
    · exact h.dis b hg h'
    · have := h.hiF b hg; omega
  · rcases hG b hb.1 with h' | h'
    · exact h.loG b h'
    · exact Nat.le_trans h.up h'
  · have := h.loG b (hX b (Nat.lt_of_lt_of_le hb h.up) hx); omega
theorem PAt.below (h : PAt B w0 w F G sb rb d e) (hb : Below w.heap.size w w1) : PAt B w0 w1 F G sb rb d e :=
  have hf := Fr.of_below hb (fun _ => False)
  ⟨h.at_.fr hf (fun _ _ h => h.elim), h.rt.fr hf (fun _ _ h => h.elim), h.dis, h.loF, h.loG, fun b hb' => Nat.lt_of_lt_of_le (h.hiF b hb') hb.size, fun b hb' => Nat.lt_of_lt_of_le (h.hiG b hb') hb.size, h.bel.trans (hb.mono h.up), h.lb⟩
theorem PAt.sbo (h : PAt B w0 w F G sb rb d e) : F sb ∧ sb < w.heap.size := h.at_.own
theorem PAt.rbo (h : PAt B w0 w F G sb rb d e) : G rb ∧ rb < w.heap.size := h.rt.own
theorem Box.dstep (h : Box w F G ob cs) (hf : Fr X w w1) (hX : ∀ b, b < w.heap.size → X b → F b) (hF : ∀ b, F1 b → F b ∨ w.heap.size ≤ b) : Box w1 (fun b => F1 b ∧ b < w1.heap.size) G ob cs :=
  ⟨h.blk.fr hf (fun hx => h.nF (hX _ h.blk.lt hx)), fun hb => by
    rcases hF ob hb.1 with h' | h'
    · exact h.nF h'
    · have := h.blk.lt; omega, h.nG⟩
theorem Box.rstep (h : Box w F G ob cs) (hf : Fr X w w1) (hX : ∀ b, b < w.heap.size → X b → G b) (hG : ∀ b, G1 b → G b ∨ w.heap.size ≤ b) : Box w1 F (fun b => G1 b ∧ b < w1.heap.size) ob cs :=
  ⟨h.blk.fr hf (fun hx => h.nG (hX _ h.blk.lt hx)), h.nF, fun hb => by
    rcases hG ob hb.1 with h' | h'
    · exact h.nG h'
    · have := h.blk.lt; omega⟩
theorem Box.below (h : Box w F G ob cs) (hb : Below w.heap.size w w1) : Box w1 F G ob cs := ⟨h.blk.below hb, h.nF, h.nG⟩
end
def PlaysRel (w : World) (n len sb rb : Nat) (i : Value) (wr : World) : Prop :=
  ∃ (k : Nat) (F G : Nat → Prop) (d : Dk), k ≤ len ∧ i = .int .i64 k ∧ PAt w.heap.size w wr F G sb rb d d ∧ d.pages.length = n ∧ d.acc ≤ k
def PlaysMid (w : World) (n k sb rb : Nat) (wr : World) : Prop := ∃ (F G : Nat → Prop) (d : Dk), PAt w.heap.size w wr F G sb rb d d ∧ d.pages.length = n ∧ d.acc ≤ k + 1
theorem waitsZ_len (d : Dk) : d.waitsZ.length = d.waiting.length := by simp [Dk.waitsZ]
theorem waiting_len (d : Dk) : d.waiting.length ≤ d.pages.length := Nat.le_trans (List.length_filter_le _ _) (by simp)
theorem add_at' (bb bo k : Nat) : (⟨bb, bo, none⟩ : Addr).add k = ⟨bb, bo + k, none⟩ := by unfold Addr.add; split <;> simp_all
theorem conv_part (w : World) (b : Nat) (c : Int) (h : Blk w b 5 (part24 c 24)) : (convert 25 9 (.slice (some ⟨b, 0, none⟩) 24 24)).run Try.prog w = .ok (.string (strOfNums (rep24 c))) w := by
  refine conv_at (l := rep24 c) (by simp [rep24]) (fun i hi => ?_) rfl
  have hk := nums_get (rep24 c) i (by simpa [rep24] using hi)
  rw [← part24_full] at hk
  simpa using h.cell i _ (by simpa using hk)
theorem conv_zero (B : Option Addr) (cp : Nat) (w : World) : (convert 25 9 (.slice B 0 cp)).run Try.prog w = .ok (.string (strOfNums [])) w := by
  cases B <;> kernel_rfl
theorem conv_in {w w' : World} {B : Option Addr} {m cp : Nat} {l : List Int} (h : BytesIn w B m l) (hb : Below w.heap.size w w') : (convert 25 9 (.slice B m cp)).run Try.prog w' = .ok (.string (strOfNums l)) w' := by
  rcases Nat.eq_zero_or_pos m with h0 | h0
  · subst h0
    obtain rfl : l = [] := List.eq_nil_of_length_eq_zero h.1
    exact conv_zero B cp w'
  · obtain ⟨bb, bo, rfl, _, _⟩ := h.2.1 0 h0
    refine conv_at h.1 (fun i hi => ?_) rfl
    obtain ⟨b2, o2, he, hlt, hc⟩ := h.2.1 i hi
    obtain ⟨rfl, rfl⟩ : b2 = bb ∧ o2 = bo := by simpa using he.symm
    exact (hb.cell (p := ⟨b2, o2 + i, none⟩) hlt).trans hc
theorem kind8 (x : Int) (h0 : -9223372036854775808 ≤ x) (h1 : x ≤ 9223372036854775807) : ∃ q : Nat, q < 8 ∧ (wrap64 (x.tmod 8 + 8)).tmod 8 = (q : Int) := by
  have h2 : -8 < x.tmod 8 ∧ x.tmod 8 < 8 := by
    refine ⟨?_, Int.tmod_lt_of_pos x (by omega)⟩
    have := Int.lt_tmod_of_pos x (b := 8) (by omega)
    omega
  generalize x.tmod 8 = y at h2
  obtain ⟨m, hm⟩ := Int.eq_ofNat_of_zero_le (show 0 ≤ y + 8 by omega)
  refine ⟨m % 8, Nat.mod_lt _ (by omega), ?_⟩
  have hw : wrap64 (y + 8) = y + 8 := by unfold wrap64; omega
  rw [hw, hm]; rfl
set_option maxHeartbeats 40000000 in
theorem plays_walk (pages : Int) (A : Option Addr) (len cap : Nat) (l : List OpD) (w : World) (hin : OpsIn w A len l) (hlen : len ≤ maxLen) (hp0 : -9223372036854775808 ≤ pages) (hp1 : pages ≤ 9223372036854775807) : Calls Try.prog 4 #[.int .i64 pages, .slice A len cap] w (ToldTo w) := by
  have HIN := Lib.hid hin
  clear hin
  by_cases hp : pages < 1 ∨ 48 < pages
  · go_enter Try.func4, Try.ntmps4
    go_wp2_with fail
    refine (new_none pages w hp).mono ?_
    rintro e w' ⟨rfl, rfl⟩
    go_wp2_with fail
    refine (rnew_none pages w hp).mono ?_
    rintro e w' ⟨rfl, rfl⟩
    go_wp2_with fail
    refine (told3_any w).mono ?_
    rintro e w2 ⟨rfl, hbel⟩
    go_wp2
    go_ret
    exact ⟨rfl, hbel⟩
  · obtain ⟨n, rfl⟩ := Int.eq_ofNat_of_zero_le (show 0 ≤ pages by omega)
    have h1 : 1 ≤ n := by omega
    have h2 : n ≤ 48 := by omega
    clear hp hp0 hp1
    go_enter Try.func4, Try.ntmps4
    go_wp2_with fail
    refine (new_any n w h1 h2).mono ?_
    rintro e w1 ⟨sb, rfl, hd, hsb, hb1⟩
    have HD := Lib.hid hd
    have HB1 := Lib.hid hb1
    clear hd hsb hb1
    go_wp2_with fail
    refine (rnew_any n w1 h1 h2).mono ?_
    rintro e w2 ⟨rb, rfl, hr, hrb, hb2⟩
    have hP : PAt w.heap.size w w2 (fun b => w.heap.size ≤ b ∧ b < w1.heap.size) (fun b => w1.heap.size ≤ b ∧ b < w2.heap.size) sb rb (fresh n) (fresh n) :=
      ⟨HD.out.bound.fr (Fr.of_below hb2 (fun _ => False)) (fun _ _ h => h.elim), hr.bound, fun b hF hG => by omega, fun b hF => hF.1, fun b hG => Nat.le_trans HB1.out.size hG.1, fun b hF => Nat.lt_of_lt_of_le hF.2 hb2.size, fun b hG => hG.2, HB1.out.trans (hb2.mono HB1.out.size), Nat.le_refl _⟩
    have HP := Lib.hid hP
    clear hr hrb hb2 hP
    by_cases hl100 : len > 100
    · have hl100' : (len : Int) > 100 := by omega
      go_wp2_with fail
      refine (told3_any _).mono ?_
      rintro e w3 ⟨rfl, hbel⟩
      have H2 := Lib.hid (HP.out.below hbel)
      clear hbel
      go_wp2
      go_ret
      exact ⟨rfl, H2.out.bel⟩
    · have hl100' : (len : Int) ≤ 100 := by omega
      clear hl100
      go_wp2_with fail
      go_loopw [7] (fun i wr => PlaysRel w n len sb rb i wr) (fun i _ => len - (intOf i).toNat)
      case atStart => exact ⟨0, _, _, fresh n, Nat.zero_le _, rfl, HP.out, by simp [fresh], Int.le_refl _⟩
      case round =>
        obtain ⟨k, F, G, d, hk, rfl, hp, hpg, hacc⟩ := hrel
        have H := Lib.hid hp
        have HPG := Lib.hid hpg
        have HA := Lib.hid hacc
        clear hp hpg hacc
        by_cases hlt : k < len
        · obtain ⟨o, ho⟩ : ∃ o, l[k]? = some o := ⟨l[k]'(by rw [HIN.out.1]; exact hlt), by simp⟩
          obtain ⟨bb, bo, Bv, m, cp, rfl, hbb, ck, cp', cn, cc, cb, hby, hm1, hm2, hk0, hp0, hn0, hc0⟩ := HIN.out.2 k o ho
          have ck := (H.out.bel.cell (p := ⟨bb, bo + k * 5, none⟩) hbb).trans ck
          have cp' := (H.out.bel.cell (p := ⟨bb, bo + k * 5 + 1, none⟩) hbb).trans cp'
          have cn := (H.out.bel.cell (p := ⟨bb, bo + k * 5 + 2, none⟩) hbb).trans cn
          have cc := (H.out.bel.cell (p := ⟨bb, bo + k * 5 + 3, none⟩) hbb).trans cc
          have cb := (H.out.bel.cell (p := ⟨bb, bo + k * 5 + 4, none⟩) hbb).trans cb
          have HBY := Lib.hid hby
          clear ho hby
          obtain ⟨q, hq8, hq⟩ := kind8 o.kind hk0.1 hk0.2
          by_cases hm60 : m > 60
          · have hm60' : (m : Int) > 60 := by omega
            go_wp2_with fail
            refine (told3_any _).mono ?_
            rintro e w3 ⟨rfl, hbel⟩
            have H2 := Lib.hid ((H.out.below ((Below.refl _ _).alloc (Nat.le_refl _) _)).below hbel)
            clear hbel
            go_wp2
            go_ret
            exact ⟨rfl, H2.out.bel⟩
          · have hm60' : (m : Int) ≤ 60 := by omega
            clear hm60
            go_upto_block 2 with fail
            have hP := H.out.below ((Below.refl wr.heap.size wr).alloc (Nat.le_refl _) (.cells #[.int .i64 o.kind, .int .i64 o.p, .int .i64 o.n, .int .u8 o.c, .slice Bv m cp] 59))
            have hB : Box (wr.alloc (.cells #[.int .i64 o.kind, .int .i64 o.p, .int .i64 o.n, .int .u8 o.c, .slice Bv m cp] 59)) F G wr.heap.size #[.int .i64 o.kind, .int .i64 o.p, .int .i64 o.n, .int .u8 o.c, .slice Bv m cp] :=
              ⟨Blk.new _ _ _, fun h => Nat.lt_irrefl _ (H.out.hiF _ h), fun h => Nat.lt_irrefl _ (H.out.hiG _ h)⟩
            obtain ⟨ob, hob⟩ : ∃ ob, ob = wr.heap.size := ⟨_, rfl⟩
            rw [← hob] at hB ⊢
            clear hob ck cp' cn cc cb
            generalize wr.alloc (.cells #[.int .i64 o.kind, .int .i64 o.p, .int .i64 o.n, .int .u8 o.c, .slice Bv m cp] 59) = W at hP hB ⊢
            have HP := Lib.hid hP
            have HX := Lib.hid hB
            have x1 : W.cell? ⟨ob, 1, none⟩ = some (.int .i64 o.p) := hB.blk.cell 1 _ rfl
            have x2 : W.cell? ⟨ob, 2, none⟩ = some (.int .i64 o.n) := hB.blk.cell 2 _ rfl
            have x3 : W.cell? ⟨ob, 3, none⟩ = some (.int .u8 o.c) := hB.blk.cell 3 _ rfl
            have x4 : W.cell? ⟨ob, 4, none⟩ = some (.slice Bv m cp) := hB.blk.cell 4 _ rfl
            clear hP hB
            have hacc : d.acc < 1000000000 := by have := HA.out; omega
            have hacc1 : d.acc + 1 ≤ k + 1 := by have := HA.out; omega
            have HAC := Lib.hid hacc
            have HAK := Lib.hid hacc1
            clear hacc hacc1
            go_cut [] from 30 to 162 (fun wx => PlaysMid w n k sb rb wx)
            case first =>
              have HQ := Lib.hid hq
              clear hq
              have fX := HX.out
              rcases (show q = 0 ∨ q = 1 ∨ q = 2 ∨ q = 3 ∨ q = 4 ∨ q = 5 ∨ q = 6 ∨ q = 7 by omega) with rfl | rfl | rfl | rfl | rfl | rfl | rfl | rfl
              all_goals (have hq := HQ.out; clear HQ fX)
              case inl | inr.inl =>
                all_goals
                  go_wp2_with fail
                  refine (read_all sb d o.p F W HP.out.at_ HAC.out).mono ?_
                  rintro e w3 ⟨v3, rfl, ho3, hd3, hf3⟩
                  obtain ⟨A3, k3, rfl, _⟩ := own_shape ho3
                  have HP3 := Lib.hid (HP.out.dstep hd3 hf3 (fun b _ e => e ▸ HP.out.sbo.1) (fun b h => .inl h))
                  have HX3 := Lib.hid (HX.out.dstep (F1 := F) hf3 (fun b _ e => e ▸ HP.out.sbo.1) (fun b h => .inl h))
                  have y1 : w3.cell? ⟨ob, 1, none⟩ = some (.int .i64 o.p) := HX3.out.blk.cell 1 _ rfl
                  have HO3 := Lib.hid ho3
                  clear ho3 hd3 hf3
                  go_wp2_with fail
                  refine (rread_all rb d o.p G w3 HP3.out.rt HAC.out).mono ?_
                  rintro e w4 ⟨rfl, hr4, hf4⟩
                  have HP4 := Lib.hid (HP3.out.rstep hr4 hf4 (fun b _ e => e ▸ HP3.out.rbo.1) (fun b h => .inl h))
                  have hcv := conv_own (own_fr HO3.out hf4 (fun b hb e => by have := own_ge HO3.out b hb; have := HP.out.rbo.2; omega))
                  clear hr4 hf4
                  generalize hrt : strOfNums (d.rtext o.p) = st at hcv ⊢
                  clear hrt
                  go_wp2_with fail
                  go_meet
                  exact ⟨_, _, _, HP4.out, by rw [rnext_len]; exact HPG.out, Int.le_trans (rnext_acc d o.p) HAK.out⟩
              case inr.inr.inl | inr.inr.inr.inl =>
                all_goals
                  have HL := Lib.hid (show (rep24 o.c).length = 24 from rfl)
                  go_wp2_with fail
                  refine AnyLate.start (by kernel_rfl) (fun w' => w'.cell? ⟨ob, 1, none⟩ = some (.int .i64 o.p) ∧ w'.cell? ⟨ob, 3, none⟩ = some (.int .u8 o.c)) [] ?_ (fun hSw0 => ?_)
                  · exact ⟨x1, x3⟩
                  have hS := hSw0
                  refine AnyLate.take (i := 0) (v := ?_) rfl (by kernel_rfl) (by kernel_rfl) (by kernel_rfl) (by kernel_rfl) (fun _ _ _ h => h) (Or.inl ⟨by rfl, ?_⟩) (fun _ => hS) ?_; rotate_left
                  · intro wS hSw; first | (go_simp; done) | (go_simp; with_reducible rfl)
                  try simp only [Act.put, List.setIfInBounds_toArray, List.set_cons_zero, List.set_cons_succ, List.getElem_toArray, List.getElem_cons_succ, List.getElem_cons_zero]
                  refine AnyLate.take (i := 1) (v := ?_) rfl (by kernel_rfl) (by kernel_rfl) (by kernel_rfl) (by kernel_rfl) (fun _ _ _ h => h) (Or.inl ⟨by rfl, ?_⟩) (fun _ => hS) ?_; rotate_left
                  · intro wS hSw; first | (go_simp; done) | (go_simp; with_reducible rfl)
                  try simp only [Act.put, List.setIfInBounds_toArray, List.set_cons_zero, List.set_cons_succ, List.getElem_toArray, List.getElem_cons_succ, List.getElem_cons_zero]
                  refine AnyLate.load (i := 2) (v := ?_) rfl (by kernel_rfl) (by kernel_rfl) (by kernel_rfl) (by kernel_rfl) (fun _ _ _ h => h) (Or.inl ⟨by rfl, ?_⟩) hS ?_; rotate_left
                  · intro wS hSw; obtain ⟨cS0, cS1⟩ := hSw; first | (go_simp; done) | (go_simp; with_reducible rfl)
                  try simp only [Act.put, List.setIfInBounds_toArray, List.set_cons_zero, List.set_cons_succ, List.getElem_toArray, List.getElem_cons_succ, List.getElem_cons_zero]
                  refine AnyLate.take (i := 3) (v := ?_) rfl (by kernel_rfl) (by kernel_rfl) (by kernel_rfl) (by kernel_rfl) (fun _ _ _ h => h) (Or.inl ⟨by rfl, ?_⟩) (fun _ => hS) ?_; rotate_left
                  · intro wS hSw; first | (go_simp; done) | (go_simp; with_reducible rfl)
                  try simp only [Act.put, List.setIfInBounds_toArray, List.set_cons_zero, List.set_cons_succ, List.getElem_toArray, List.getElem_cons_succ, List.getElem_cons_zero]
                  refine AnyLate.load (i := 4) (v := ?_) rfl (by kernel_rfl) (by kernel_rfl) (by kernel_rfl) (by kernel_rfl) (fun _ _ _ h => h) (Or.inl ⟨by rfl, ?_⟩) hS ?_; rotate_left
                  · intro wS hSw; obtain ⟨cS0, cS1⟩ := hSw; first | (go_simp; done) | (go_simp; with_reducible rfl)
                  try simp only [Act.put, List.setIfInBounds_toArray, List.set_cons_zero, List.set_cons_succ, List.getElem_toArray, List.getElem_cons_succ, List.getElem_cons_zero]
                  refine AnyLate.take (i := 7) (v := ?_) rfl (by kernel_rfl) (by kernel_rfl) (by kernel_rfl) (by kernel_rfl) (fun _ _ _ h => h) (Or.inl ⟨by rfl, ?_⟩) (fun _ => hS) ?_; rotate_left
                  · intro wS hSw; first | (go_simp; done) | (go_simp; with_reducible rfl)
                  try simp only [Act.put, List.setIfInBounds_toArray, List.set_cons_zero, List.set_cons_succ, List.getElem_toArray, List.getElem_cons_succ, List.getElem_cons_zero]
                  refine AnyLate.take (i := 8) (v := ?_) rfl (by kernel_rfl) (by kernel_rfl) (by kernel_rfl) (by kernel_rfl) (fun _ _ _ h => h) (Or.inl ⟨by rfl, ?_⟩) (fun _ => hS) ?_; rotate_left
                  · intro wS hSw; first | (go_simp; done) | (go_simp; with_reducible rfl)
                  try simp only [Act.put, List.setIfInBounds_toArray, List.set_cons_zero, List.set_cons_succ, List.getElem_toArray, List.getElem_cons_succ, List.getElem_cons_zero]
                  refine AnyLate.load (i := 9) (v := ?_) rfl (by kernel_rfl) (by kernel_rfl) (by kernel_rfl) (by kernel_rfl) (fun _ _ _ h => h) (Or.inl ⟨by rfl, ?_⟩) hS ?_; rotate_left
                  · intro wS hSw; obtain ⟨cS0, cS1⟩ := hSw; first | (go_simp; done) | (go_simp; with_reducible rfl)
                  try simp only [Act.put, List.setIfInBounds_toArray, List.set_cons_zero, List.set_cons_succ, List.getElem_toArray, List.getElem_cons_succ, List.getElem_cons_zero]
                  refine AnyLate.take (i := 10) (v := ?_) rfl (by kernel_rfl) (by kernel_rfl) (by kernel_rfl) (by kernel_rfl) (fun _ _ _ h => h) (Or.inl ⟨by rfl, ?_⟩) (fun _ => hS) ?_; rotate_left
                  · intro wS hSw; first | (go_simp; done) | (go_simp; with_reducible rfl)
                  try simp only [Act.put, List.setIfInBounds_toArray, List.set_cons_zero, List.set_cons_succ, List.getElem_toArray, List.getElem_cons_succ, List.getElem_cons_zero]
                  refine AnyLate.load (i := 11) (v := ?_) rfl (by kernel_rfl) (by kernel_rfl) (by kernel_rfl) (by kernel_rfl) (fun _ _ _ h => h) (Or.inl ⟨by rfl, ?_⟩) hS ?_; rotate_left
                  · intro wS hSw; obtain ⟨cS0, cS1⟩ := hSw; first | (go_simp; done) | (go_simp; with_reducible rfl)
                  try simp only [Act.put, List.setIfInBounds_toArray, List.set_cons_zero, List.set_cons_succ, List.getElem_toArray, List.getElem_cons_succ, List.getElem_cons_zero]
                  refine AnyLate.ready (rs := [5]) (by kernel_rfl) (by simp) ?_
                  refine AllLate.cons rfl (fun K hK => ?_) ?_
                  ·
                    go_simp
                    go_at_call 23
                    refine (bytes3_any o.c _).mono ?_
                    rintro e w2 ⟨rfl, hb2, hbel2⟩
                    have hbel2' : Below W.heap.size W w2 := ⟨hbel2.os, hbel2.tape, hbel2.output, hbel2.size, hbel2.block⟩
                    have HB2 := Lib.hid hb2
                    have HP2 := Lib.hid (HP.out.below hbel2')
                    have HX2 := Lib.hid (HX.out.below hbel2')
                    clear hb2 hbel2 hbel2' hS
                    have hS := And.intro (HX2.out.blk.cell 1 _ rfl) (HX2.out.blk.cell 3 _ rfl)
                    refine hK.out _ _ (fun _ => hS) ?_
                    try simp only [Act.put, List.setIfInBounds_toArray, List.set_cons_zero, List.set_cons_succ, List.getElem_toArray, List.getElem_cons_succ, List.getElem_cons_zero]
                    refine AnyLate.ready (rs := [6]) (by kernel_rfl) (by simp) ?_
                    refine AllLate.cons rfl (fun K hK => ?_) ?_
                    ·
                      go_simp
                      go_at_call 22
                      refine (write_all sb d o.p _ 24 24 (rep24 o.c) F w2 HP2.out.at_ HAC.out rfl (fun _ => ⟨_, rfl, blk_news HB2.out (part24_full _), fun e => by have := HP.out.sbo.2; have e' : W.heap.size = sb := e; omega⟩)).mono ?_
                      rintro e w3 ⟨rfl, hd3, hf3⟩
                      have HP3 := Lib.hid (HP2.out.dstep hd3 hf3 (fun _ _ h => h) (fun b h => h))
                      have HX3 := Lib.hid (HX2.out.dstep hf3 (fun _ _ h => h) (fun b h => h))
                      clear hd3 hf3 hS
                      have hS := And.intro (HX3.out.blk.cell 1 _ rfl) (HX3.out.blk.cell 3 _ rfl)
                      refine hK.out _ _ (fun _ => hS) ?_
                      try simp only [Act.put, List.setIfInBounds_toArray, List.set_cons_zero, List.set_cons_succ, List.getElem_toArray, List.getElem_cons_succ, List.getElem_cons_zero]
                      refine AnyLate.ready (rs := [12]) (by kernel_rfl) (by simp) ?_
                      refine AllLate.cons rfl (fun K hK => ?_) ?_
                      ·
                        go_simp
                        go_at_call 23
                        refine (bytes3_any o.c w3).mono ?_
                        rintro e w4 ⟨rfl, hb4, hbel4⟩
                        have HP4 := Lib.hid (HP3.out.below hbel4)
                        have HX4 := Lib.hid (HX3.out.below hbel4)
                        have hcv4 := conv_part w4 _ o.c hb4
                        clear hb4 hbel4 hS
                        have hS := And.intro (HX4.out.blk.cell 1 _ rfl) (HX4.out.blk.cell 3 _ rfl)
                        refine hK.out _ _ (fun _ => hS) ?_
                        try simp only [Act.put, List.setIfInBounds_toArray, List.set_cons_zero, List.set_cons_succ, List.getElem_toArray, List.getElem_cons_succ, List.getElem_cons_zero]
                        refine AnyLate.ready (rs := [13]) (by kernel_rfl) (by simp) ?_
                        refine AllLate.cons rfl (fun K hK => ?_) ?_
                        ·
                          go_simp
                          refine hK.out _ _ (fun _ => hS) ?_
                          try simp only [Act.put, List.setIfInBounds_toArray, List.set_cons_zero, List.set_cons_succ, List.getElem_toArray, List.getElem_cons_succ, List.getElem_cons_zero]
                          refine AnyLate.ready (rs := [14]) (by kernel_rfl) (by simp) ?_
                          refine AllLate.cons rfl (fun K hK => ?_) ?_
                          ·
                            go_simp
                            go_at_call 24
                            refine (rwrite_all rb d o.p (rep24 o.c) G w4 HP4.out.rt HAC.out (by rw [HL.out]; omega)).mono ?_
                            rintro e w5 ⟨rfl, hr5, hf5⟩
                            have HP5 := Lib.hid (HP4.out.rstep hr5 hf5 (fun _ _ h => h) (fun b h => .inl h))
                            have HX5 := Lib.hid (HX4.out.rstep hf5 (fun _ _ h => h) (fun b h => .inl h))
                            clear hr5 hf5 hS
                            have hS := And.intro (HX5.out.blk.cell 1 _ rfl) (HX5.out.blk.cell 3 _ rfl)
                            refine hK.out _ _ (fun _ => hS) ?_
                            try simp only [Act.put, List.setIfInBounds_toArray, List.set_cons_zero, List.set_cons_succ, List.getElem_toArray, List.getElem_cons_succ, List.getElem_cons_zero]
                            refine AnyLate.take (i := 15) (v := ?_) rfl (by kernel_rfl) (by kernel_rfl) (by kernel_rfl) (by kernel_rfl) (fun _ _ _ h => h) (Or.inl ⟨by rfl, ?_⟩) (fun _ => hS) ?_; rotate_left
                            · intro wS hSw; first | (go_simp; done) | (go_simp; with_reducible rfl)
                            try simp only [Act.put, List.setIfInBounds_toArray, List.set_cons_zero, List.set_cons_succ, List.getElem_toArray, List.getElem_cons_succ, List.getElem_cons_zero]
                            refine AnyLate.done (by kernel_rfl) ?_ _
                            go_wp2_with fail
                            go_meet
                            exact ⟨_, _, _, HP5.out, by rw [wnext_len]; exact HPG.out, Int.le_trans (wnext_acc d o.p _) HAK.out⟩
                          exact AllLate.nil
                        exact AllLate.nil
                      exact AllLate.nil
                    exact AllLate.nil
                  exact AllLate.nil
              case inr.inr.inr.inr.inl =>
                have HPD := Lib.hid (HP.out.below ((Below.refl _ _).drew))
                have HXD := Lib.hid (HX.out.below ((Below.refl _ _).drew))
                have hcl : m = 24 → ∃ ad, Bv = some ad ∧ (∀ j u, (nums o.b)[j]? = some u → W.drew.cell? (ad.add j) = some u) ∧ ad.block ≠ sb := by
                  intro h24
                  obtain ⟨bb2, bo2, rfl, hlt2, _⟩ := HBY.out.2.1 0 (by omega)
                  refine ⟨_, rfl, fun j u hj => ?_, fun e => ?_⟩
                  · have hjl : j < m := by
                      have := (List.getElem?_eq_some_iff.1 hj).1
                      rw [nums_length, HBY.out.1] at this; exact this
                    obtain ⟨b3, o3, he, _, hc⟩ := HBY.out.2.1 j hjl
                    obtain ⟨rfl, rfl⟩ : b3 = bb2 ∧ o3 = bo2 := by simpa using he.symm
                    rw [nums_get _ _ (by rw [HBY.out.1]; exact hjl)] at hj
                    obtain rfl := Option.some.inj hj
                    rw [add_at']
                    exact (HPD.out.bel.cell (p := ⟨b3, o3 + j, none⟩) hlt2).trans hc
                  · have h1 := HP.out.loF _ HP.out.sbo.1
                    have h2 : bb2 = sb := e
                    omega
                have HCL := Lib.hid hcl
                obtain ⟨st, hst⟩ : ∃ s, strOfNums o.b = s := ⟨_, rfl⟩
                have HST := Lib.hid hst
                have hcvW := conv_in (cp := cp) HBY.out HPD.out.bel
                rw [hst] at hcvW
                have hm60n : m ≤ 60 := by omega
                clear hcl hst
                go_wp2_with fail
                refine AnyLate.start (by kernel_rfl) (fun w' => w'.cell? ⟨ob, 1, none⟩ = some (.int .i64 o.p) ∧ w'.cell? ⟨ob, 4, none⟩ = some (.slice Bv m cp)) [] ?_ (fun hSw0 => ?_)
                · exact ⟨x1, x4⟩
                have hS := hSw0
                refine AnyLate.take (i := 0) (v := ?_) rfl (by kernel_rfl) (by kernel_rfl) (by kernel_rfl) (by kernel_rfl) (fun _ _ _ h => h) (Or.inl ⟨by rfl, ?_⟩) (fun _ => hS) ?_; rotate_left
                · intro wS hSw; first | (go_simp; done) | (go_simp; with_reducible rfl)
                try simp only [Act.put, List.setIfInBounds_toArray, List.set_cons_zero, List.set_cons_succ, List.getElem_toArray, List.getElem_cons_succ, List.getElem_cons_zero]
                refine AnyLate.take (i := 1) (v := ?_) rfl (by kernel_rfl) (by kernel_rfl) (by kernel_rfl) (by kernel_rfl) (fun _ _ _ h => h) (Or.inl ⟨by rfl, ?_⟩) (fun _ => hS) ?_; rotate_left
                · intro wS hSw; first | (go_simp; done) | (go_simp; with_reducible rfl)
                try simp only [Act.put, List.setIfInBounds_toArray, List.set_cons_zero, List.set_cons_succ, List.getElem_toArray, List.getElem_cons_succ, List.getElem_cons_zero]
                refine AnyLate.load (i := 2) (v := ?_) rfl (by kernel_rfl) (by kernel_rfl) (by kernel_rfl) (by kernel_rfl) (fun _ _ _ h => h) (Or.inl ⟨by rfl, ?_⟩) hS ?_; rotate_left
                · intro wS hSw; obtain ⟨cS0, cS1⟩ := hSw; first | (go_simp; done) | (go_simp; with_reducible rfl)
                try simp only [Act.put, List.setIfInBounds_toArray, List.set_cons_zero, List.set_cons_succ, List.getElem_toArray, List.getElem_cons_succ, List.getElem_cons_zero]
                refine AnyLate.take (i := 3) (v := ?_) rfl (by kernel_rfl) (by kernel_rfl) (by kernel_rfl) (by kernel_rfl) (fun _ _ _ h => h) (Or.inl ⟨by rfl, ?_⟩) (fun _ => hS) ?_; rotate_left
                · intro wS hSw; first | (go_simp; done) | (go_simp; with_reducible rfl)
                try simp only [Act.put, List.setIfInBounds_toArray, List.set_cons_zero, List.set_cons_succ, List.getElem_toArray, List.getElem_cons_succ, List.getElem_cons_zero]
                refine AnyLate.load (i := 4) (v := ?_) rfl (by kernel_rfl) (by kernel_rfl) (by kernel_rfl) (by kernel_rfl) (fun _ _ _ h => h) (Or.inl ⟨by rfl, ?_⟩) hS ?_; rotate_left
                · intro wS hSw; obtain ⟨cS0, cS1⟩ := hSw; first | (go_simp; done) | (go_simp; with_reducible rfl)
                try simp only [Act.put, List.setIfInBounds_toArray, List.set_cons_zero, List.set_cons_succ, List.getElem_toArray, List.getElem_cons_succ, List.getElem_cons_zero]
                refine AnyLate.take (i := 6) (v := ?_) rfl (by kernel_rfl) (by kernel_rfl) (by kernel_rfl) (by kernel_rfl) (fun _ _ _ h => h) (Or.inl ⟨by rfl, ?_⟩) (fun _ => hS) ?_; rotate_left
                · intro wS hSw; first | (go_simp; done) | (go_simp; with_reducible rfl)
                try simp only [Act.put, List.setIfInBounds_toArray, List.set_cons_zero, List.set_cons_succ, List.getElem_toArray, List.getElem_cons_succ, List.getElem_cons_zero]
                refine AnyLate.take (i := 7) (v := ?_) rfl (by kernel_rfl) (by kernel_rfl) (by kernel_rfl) (by kernel_rfl) (fun _ _ _ h => h) (Or.inl ⟨by rfl, ?_⟩) (fun _ => hS) ?_; rotate_left
                · intro wS hSw; first | (go_simp; done) | (go_simp; with_reducible rfl)
                try simp only [Act.put, List.setIfInBounds_toArray, List.set_cons_zero, List.set_cons_succ, List.getElem_toArray, List.getElem_cons_succ, List.getElem_cons_zero]
                refine AnyLate.load (i := 8) (v := ?_) rfl (by kernel_rfl) (by kernel_rfl) (by kernel_rfl) (by kernel_rfl) (fun _ _ _ h => h) (Or.inl ⟨by rfl, ?_⟩) hS ?_; rotate_left
                · intro wS hSw; obtain ⟨cS0, cS1⟩ := hSw; first | (go_simp; done) | (go_simp; with_reducible rfl)
                try simp only [Act.put, List.setIfInBounds_toArray, List.set_cons_zero, List.set_cons_succ, List.getElem_toArray, List.getElem_cons_succ, List.getElem_cons_zero]
                refine AnyLate.take (i := 9) (v := ?_) rfl (by kernel_rfl) (by kernel_rfl) (by kernel_rfl) (by kernel_rfl) (fun _ _ _ h => h) (Or.inl ⟨by rfl, ?_⟩) (fun _ => hS) ?_; rotate_left
                · intro wS hSw; first | (go_simp; done) | (go_simp; with_reducible rfl)
                try simp only [Act.put, List.setIfInBounds_toArray, List.set_cons_zero, List.set_cons_succ, List.getElem_toArray, List.getElem_cons_succ, List.getElem_cons_zero]
                refine AnyLate.load (i := 10) (v := ?_) rfl (by kernel_rfl) (by kernel_rfl) (by kernel_rfl) (by kernel_rfl) (fun _ _ _ h => h) (Or.inl ⟨by rfl, ?_⟩) hS ?_; rotate_left
                · intro wS hSw; obtain ⟨cS0, cS1⟩ := hSw; first | (go_simp; done) | (go_simp; with_reducible rfl)
                try simp only [Act.put, List.setIfInBounds_toArray, List.set_cons_zero, List.set_cons_succ, List.getElem_toArray, List.getElem_cons_succ, List.getElem_cons_zero]
                refine AnyLate.ready (rs := [5, 11]) (by kernel_rfl) (by simp) ?_
                refine AllLate.cons rfl (fun K hK => ?_) ?_
                ·
                  go_simp
                  go_at_call 22
                  refine (write_all sb d o.p Bv m cp o.b F _ HPD.out.at_ HAC.out HBY.out.1 (fun h => HCL.out h)).mono ?_
                  rintro e w3 ⟨rfl, hd3, hf3⟩
                  have HP3 := Lib.hid (HPD.out.dstep hd3 hf3 (fun _ _ h => h) (fun b h => h))
                  have HX3 := Lib.hid (HXD.out.dstep hf3 (fun _ _ h => h) (fun b h => h))
                  have hcv3 := conv_in (cp := cp) HBY.out HP3.out.bel
                  rw [HST.out] at hcv3
                  clear hd3 hf3 hS
                  have hS := And.intro (HX3.out.blk.cell 1 _ rfl) (HX3.out.blk.cell 4 _ rfl)
                  refine hK.out _ _ (fun _ => hS) ?_
                  try simp only [Act.put, List.setIfInBounds_toArray, List.set_cons_zero, List.set_cons_succ, List.getElem_toArray, List.getElem_cons_succ, List.getElem_cons_zero]
                  refine AnyLate.ready (rs := [11]) (by kernel_rfl) (by simp) ?_
                  refine AllLate.cons rfl (fun K hK => ?_) ?_
                  ·
                    go_simp
                    refine hK.out _ _ (fun _ => hS) ?_
                    try simp only [Act.put, List.setIfInBounds_toArray, List.set_cons_zero, List.set_cons_succ, List.getElem_toArray, List.getElem_cons_succ, List.getElem_cons_zero]
                    refine AnyLate.ready (rs := [12]) (by kernel_rfl) (by simp) ?_
                    refine AllLate.cons rfl (fun K hK => ?_) ?_
                    ·
                      go_simp
                      go_at_call 24
                      rw [← HST.out]
                      refine (rwrite_all rb d o.p o.b G w3 HP3.out.rt HAC.out (by rw [HBY.out.1]; omega)).mono ?_
                      rintro e w5 ⟨rfl, hr5, hf5⟩
                      have HP5 := Lib.hid (HP3.out.rstep hr5 hf5 (fun _ _ h => h) (fun b h => .inl h))
                      have HX5 := Lib.hid (HX3.out.rstep hf5 (fun _ _ h => h) (fun b h => .inl h))
                      clear hr5 hf5 hS
                      have hS := And.intro (HX5.out.blk.cell 1 _ rfl) (HX5.out.blk.cell 4 _ rfl)
                      refine hK.out _ _ (fun _ => hS) ?_
                      try simp only [Act.put, List.setIfInBounds_toArray, List.set_cons_zero, List.set_cons_succ, List.getElem_toArray, List.getElem_cons_succ, List.getElem_cons_zero]
                      refine AnyLate.take (i := 13) (v := ?_) rfl (by kernel_rfl) (by kernel_rfl) (by kernel_rfl) (by kernel_rfl) (fun _ _ _ h => h) (Or.inl ⟨by rfl, ?_⟩) (fun _ => hS) ?_; rotate_left
                      · intro wS hSw; first | (go_simp; done) | (go_simp; with_reducible rfl)
                      try simp only [Act.put, List.setIfInBounds_toArray, List.set_cons_zero, List.set_cons_succ, List.getElem_toArray, List.getElem_cons_succ, List.getElem_cons_zero]
                      refine AnyLate.done (by kernel_rfl) ?_ _
                      go_wp2_with fail
                      go_meet
                      exact ⟨_, _, _, HP5.out, by rw [wnext_len]; exact HPG.out, Int.le_trans (wnext_acc d o.p _) HAK.out⟩
                    exact AllLate.nil
                  exact AllLate.nil
                refine AllLate.cons rfl (fun K hK => ?_) ?_
                ·
                  go_simp
                  refine hK.out _ _ (fun _ => hS) ?_
                  try simp only [Act.put, List.setIfInBounds_toArray, List.set_cons_zero, List.set_cons_succ, List.getElem_toArray, List.getElem_cons_succ, List.getElem_cons_zero]
                  refine AnyLate.ready (rs := [5]) (by kernel_rfl) (by simp) ?_
                  refine AllLate.cons rfl (fun K hK => ?_) ?_
                  ·
                    go_simp
                    go_at_call 22
                    refine (write_all sb d o.p Bv m cp o.b F _ HPD.out.at_ HAC.out HBY.out.1 (fun h => HCL.out h)).mono ?_
                    rintro e w3 ⟨rfl, hd3, hf3⟩
                    have HP3 := Lib.hid (HPD.out.dstep hd3 hf3 (fun _ _ h => h) (fun b h => h))
                    have HX3 := Lib.hid (HXD.out.dstep hf3 (fun _ _ h => h) (fun b h => h))
                    have hcv3 := conv_in (cp := cp) HBY.out HP3.out.bel
                    rw [HST.out] at hcv3
                    clear hd3 hf3 hS
                    have hS := And.intro (HX3.out.blk.cell 1 _ rfl) (HX3.out.blk.cell 4 _ rfl)
                    refine hK.out _ _ (fun _ => hS) ?_
                    try simp only [Act.put, List.setIfInBounds_toArray, List.set_cons_zero, List.set_cons_succ, List.getElem_toArray, List.getElem_cons_succ, List.getElem_cons_zero]
                    refine AnyLate.ready (rs := [12]) (by kernel_rfl) (by simp) ?_
                    refine AllLate.cons rfl (fun K hK => ?_) ?_
                    ·
                      go_simp
                      go_at_call 24
                      rw [← HST.out]
                      refine (rwrite_all rb d o.p o.b G w3 HP3.out.rt HAC.out (by rw [HBY.out.1]; omega)).mono ?_
                      rintro e w5 ⟨rfl, hr5, hf5⟩
                      have HP5 := Lib.hid (HP3.out.rstep hr5 hf5 (fun _ _ h => h) (fun b h => .inl h))
                      have HX5 := Lib.hid (HX3.out.rstep hf5 (fun _ _ h => h) (fun b h => .inl h))
                      clear hr5 hf5 hS
                      have hS := And.intro (HX5.out.blk.cell 1 _ rfl) (HX5.out.blk.cell 4 _ rfl)
                      refine hK.out _ _ (fun _ => hS) ?_
                      try simp only [Act.put, List.setIfInBounds_toArray, List.set_cons_zero, List.set_cons_succ, List.getElem_toArray, List.getElem_cons_succ, List.getElem_cons_zero]
                      refine AnyLate.take (i := 13) (v := ?_) rfl (by kernel_rfl) (by kernel_rfl) (by kernel_rfl) (by kernel_rfl) (fun _ _ _ h => h) (Or.inl ⟨by rfl, ?_⟩) (fun _ => hS) ?_; rotate_left
                      · intro wS hSw; first | (go_simp; done) | (go_simp; with_reducible rfl)
                      try simp only [Act.put, List.setIfInBounds_toArray, List.set_cons_zero, List.set_cons_succ, List.getElem_toArray, List.getElem_cons_succ, List.getElem_cons_zero]
                      refine AnyLate.done (by kernel_rfl) ?_ _
                      go_wp2_with fail
                      go_meet
                      exact ⟨_, _, _, HP5.out, by rw [wnext_len]; exact HPG.out, Int.le_trans (wnext_acc d o.p _) HAK.out⟩
                    exact AllLate.nil
                  exact AllLate.nil
                exact AllLate.nil
              case inr.inr.inr.inr.inr.inl =>
                go_wp2_with fail
                refine (sync_all sb d F W HP.out.at_ HAC.out).mono ?_
                rintro e w3 ⟨rfl, hd3, hf3⟩
                have HP3 := Lib.hid (HP.out.dstep hd3 hf3 (fun _ _ h => h) (fun b h => .inl h))
                clear hd3 hf3
                go_wp2_with fail
                refine (rsync_all rb d G w3 HP3.out.rt HAC.out).mono ?_
                rintro e w4 ⟨rfl, hr4, hf4⟩
                have HP4 := Lib.hid (HP3.out.rstep hr4 hf4 (fun _ _ h => h) (fun b h => .inl h))
                clear hr4 hf4
                go_wp2_with fail
                go_meet
                exact ⟨_, _, _, HP4.out, by rw [snext_len]; exact HPG.out, Int.le_trans (snext_acc d) HAK.out⟩
              case inr.inr.inr.inr.inr.inr.inl =>
                have HPD := Lib.hid (HP.out.below ((Below.refl _ _).drew))
                have HXD := Lib.hid (HX.out.below ((Below.refl _ _).drew))
                go_wp2_with fail
                go_region_held3 (fun w' => w'.cell? ⟨ob, 2, none⟩ = some (.int .i64 o.n)) (first | go_keep | exact HX4.out.blk.cell 2 _ rfl | exact HX3.out.blk.cell 2 _ rfl) (first
                  | (go_at_call 27; refine (fail_any sb d o.n F _ HPD.out.at_).mono ?_; rintro e w3 ⟨rfl, hd3, hf3⟩; have HP3 := Lib.hid (HPD.out.dstep hd3 hf3 (fun b _ e => e ▸ HP.out.sbo.1) (fun b h => .inl h)); have HX3 := Lib.hid (HXD.out.dstep (F1 := F) hf3 (fun b _ e => e ▸ HP.out.sbo.1) (fun b h => .inl h)); clear hd3 hf3)
                  | (go_at_call 28; refine (rfail_any rb d o.n G w3 HP3.out.rt).mono ?_; rintro e w4 ⟨rfl, hr4, hf4⟩; have HP4 := Lib.hid (HP3.out.rstep hr4 hf4 (fun b _ e => e ▸ HP.out.rbo.1) (fun b h => .inl h)); have HX4 := Lib.hid (HX3.out.rstep (G1 := G) hf4 (fun b _ e => e ▸ HP.out.rbo.1) (fun b h => .inl h)); clear hr4 hf4))
                all_goals go_wp2_with fail
                all_goals go_meet
                all_goals exact ⟨_, _, _, HP4.out, by rw [fail_len]; exact HPG.out, by rw [fail_acc]; exact Int.le_trans (by omega) HAK.out⟩
              case inr.inr.inr.inr.inr.inr.inr =>
                have HPD := Lib.hid (HP.out.below ((Below.refl _ _).drew))
                have HXD := Lib.hid (HX.out.below ((Below.refl _ _).drew))
                have hbi : ∀ w', Below w.heap.size w w' → ∀ i, i < m → ∃ bb bo, Bv = some ⟨bb, bo, none⟩ ∧ w'.cell? ⟨bb, bo + i, none⟩ = some (.int .u8 (o.b.getD i 0)) ∧ bb < w.heap.size := by
                  intro w' hb' i hi
                  obtain ⟨b3, o3, he, hlt3, hc⟩ := HBY.out.2.1 i hi
                  exact ⟨b3, o3, he, (hb'.cell (p := ⟨b3, o3 + i, none⟩) hlt3).trans hc, hlt3⟩
                have HBI := Lib.hid hbi
                have hm60n : m ≤ 60 := by omega
                clear hbi
                go_wp2_with fail
                go_region_held3 (fun w' => w'.cell? ⟨ob, 4, none⟩ = some (.slice Bv m cp)) (first | go_keep | exact HX4.out.blk.cell 4 _ rfl | exact HX3.out.blk.cell 4 _ rfl) (first
                  | (go_at_call 29; refine (crash_all sb d o.b Bv m cp F _ HPD.out.at_ HBY.out.1 (by omega) (fun i hi => by obtain ⟨b3, o3, he, hc, hlt3⟩ := HBI.out _ HPD.out.bel i hi; exact ⟨b3, o3, he, hc, fun hF => by have := HP.out.loF _ hF; omega⟩) HBY.out.2.2).mono ?_; rintro e w3 ⟨rfl, hd3, hf3⟩; have HP3 := Lib.hid (HPD.out.dstep hd3 hf3 (fun _ _ h => h) (fun b h => h)); have HX3 := Lib.hid (HXD.out.dstep hf3 (fun _ _ h => h) (fun b h => h)); clear hd3 hf3)
                  | (go_at_call 30; refine (rcrash_all rb d o.b Bv m cp G w3 HP3.out.rt HBY.out.1 (by omega) (fun i hi => by obtain ⟨b3, o3, he, hc, hlt3⟩ := HBI.out _ HP3.out.bel i hi; exact ⟨b3, o3, he, hc, fun hF => by have := HP.out.loG _ hF; omega⟩) HBY.out.2.2).mono ?_; rintro e w4 ⟨rfl, hr4, hf4⟩; have HP4 := Lib.hid (HP3.out.rstep hr4 hf4 (fun _ _ h => h) (fun b h => .inl h)); have HX4 := Lib.hid (HX3.out.rstep hf4 (fun _ _ h => h) (fun b h => .inl h)); clear hr4 hf4))
                all_goals go_wp2_with fail
                all_goals go_meet
                all_goals exact ⟨_, _, _, HP4.out, by rw [crash_len]; exact HPG.out, by rw [crash_acc]; exact Int.le_trans (by omega) HAK.out⟩
            case rest =>
              obtain ⟨F1, G1, d1, hp1, hpg1, hacc1⟩ := hcut
              have HP1 := Lib.hid hp1
              obtain ⟨tl, wt, pb, tb, wb, pc, tc, wcc, hr⟩ := hp1.rt
              have HR := Lib.hid hr
              have HPG1 := Lib.hid hpg1
              have HA1 := Lib.hid hacc1
              have c0 : wc.cell? ⟨rb, 0, none⟩ = some (.slice (some ⟨pb, 0, none⟩) d1.pages.length pc) := hr.blk.cell 0 _ rfl
              clear hp1 hr hpg1 hacc1 hq
              go_wp2_with fail
              have hpd := HP1.out.below (w1 := wc.drew) ((Below.refl _ _).drew)
              have HP2 := Lib.hid hpd
              have hbd : Below wc.heap.size wc wc.drew := (Below.refl _ _).drew
              have HS := Lib.hid (own_below HR.out.safe hbd)
              have HRB := Lib.hid (HR.out.blk.below hbd)
              have HFEW := Lib.hid HR.out.few
              clear hpd hbd
              refine AnyLate.start (by kernel_rfl) (fun w' => w'.cell? ⟨rb, 0, none⟩ = some (.slice (some ⟨pb, 0, none⟩) d1.pages.length pc) ∧ w'.cell? ⟨rb, 3, none⟩ = some (.int .i64 d1.acc)) [] ?_ (fun hSw0 => ?_)
              · exact ⟨HRB.out.cell 0 _ rfl, HRB.out.cell 3 _ rfl⟩
              have hS := hSw0
              refine AnyLate.take (i := 0) (v := ?_) rfl (by kernel_rfl) (by kernel_rfl) (by kernel_rfl) (by kernel_rfl) (fun _ _ _ h => h) (Or.inl ⟨by rfl, ?_⟩) (fun _ => hS) ?_; rotate_left
              · intro wS hSw; first | (go_simp; done) | (go_simp; with_reducible rfl)
              try simp only [Act.put, List.setIfInBounds_toArray, List.set_cons_zero, List.set_cons_succ, List.getElem_toArray, List.getElem_cons_succ, List.getElem_cons_zero]
              refine AnyLate.take (i := 2) (v := ?_) rfl (by kernel_rfl) (by kernel_rfl) (by kernel_rfl) (by kernel_rfl) (fun _ _ _ h => h) (Or.inl ⟨by rfl, ?_⟩) (fun _ => hS) ?_; rotate_left
              · intro wS hSw; first | (go_simp; done) | (go_simp; with_reducible rfl)
              try simp only [Act.put, List.setIfInBounds_toArray, List.set_cons_zero, List.set_cons_succ, List.getElem_toArray, List.getElem_cons_succ, List.getElem_cons_zero]
              refine AnyLate.take (i := 3) (v := ?_) rfl (by kernel_rfl) (by kernel_rfl) (by kernel_rfl) (by kernel_rfl) (fun _ _ _ h => h) (Or.inl ⟨by rfl, ?_⟩) (fun _ => hS) ?_; rotate_left
              · intro wS hSw; first | (go_simp; done) | (go_simp; with_reducible rfl)
              try simp only [Act.put, List.setIfInBounds_toArray, List.set_cons_zero, List.set_cons_succ, List.getElem_toArray, List.getElem_cons_succ, List.getElem_cons_zero]
              refine AnyLate.take (i := 4) (v := ?_) rfl (by kernel_rfl) (by kernel_rfl) (by kernel_rfl) (by kernel_rfl) (fun _ _ _ h => h) (Or.inl ⟨by rfl, ?_⟩) (fun _ => hS) ?_; rotate_left
              · intro wS hSw; first | (go_simp; done) | (go_simp; with_reducible rfl)
              try simp only [Act.put, List.setIfInBounds_toArray, List.set_cons_zero, List.set_cons_succ, List.getElem_toArray, List.getElem_cons_succ, List.getElem_cons_zero]
              refine AnyLate.load (i := 5) (v := ?_) rfl (by kernel_rfl) (by kernel_rfl) (by kernel_rfl) (by kernel_rfl) (fun _ _ _ h => h) (Or.inl ⟨by rfl, ?_⟩) hS ?_; rotate_left
              · intro wS hSw; obtain ⟨cS0, cS1⟩ := hSw; first | (go_simp; done) | (go_simp; with_reducible rfl)
              try simp only [Act.put, List.setIfInBounds_toArray, List.set_cons_zero, List.set_cons_succ, List.getElem_toArray, List.getElem_cons_succ, List.getElem_cons_zero]
              refine AnyLate.ready (rs := [1]) (by kernel_rfl) (by simp) ?_
              refine AllLate.cons rfl (fun K hK => ?_) ?_
              ·
                go_simp
                go_at_call 32
                refine (durable_any sb d1 F1 _ HP2.out.at_).mono ?_
                rintro e w3 ⟨v3, rfl, hrows, hd3, hb3⟩
                have HP3 := Lib.hid (HP2.out.below hb3)
                have HRW := Lib.hid hrows
                have HS3 := Lib.hid (own_below HS.out hb3)
                have HRB3 := Lib.hid (HRB.out.below hb3)
                clear hrows hd3 hb3 hS
                have hS := And.intro (HRB3.out.cell 0 _ rfl) (HRB3.out.cell 3 _ rfl)
                refine hK.out _ _ (fun _ => hS) ?_
                try simp only [Act.put, List.setIfInBounds_toArray, List.set_cons_zero, List.set_cons_succ, List.getElem_toArray, List.getElem_cons_succ, List.getElem_cons_zero]
                refine AnyLate.ready (rs := [6]) (by kernel_rfl) (by simp) ?_
                refine AllLate.cons rfl (fun K hK => ?_) ?_
                ·
                  go_simp
                  go_at_call 31
                  refine (texts_same v3 _ d1.pages _ w3 HRW.out (Sh.own HS3.out) (by have := HFEW.out; omega)).mono ?_
                  rintro e w4 ⟨rfl, hb4⟩
                  have HP4 := Lib.hid (HP3.out.below hb4)
                  have HRB4 := Lib.hid (HRB3.out.below hb4)
                  clear hb4 hS
                  have hS := And.intro (HRB4.out.cell 0 _ rfl) (HRB4.out.cell 3 _ rfl)
                  refine hK.out _ _ (fun _ => hS) ?_
                  try simp only [Act.put, List.setIfInBounds_toArray, List.set_cons_zero, List.set_cons_succ, List.getElem_toArray, List.getElem_cons_succ, List.getElem_cons_zero]
                  refine AnyLate.take (i := 7) (v := ?_) rfl (by kernel_rfl) (by kernel_rfl) (by kernel_rfl) (by kernel_rfl) (fun _ _ _ h => h) (Or.inl ⟨by rfl, ?_⟩) (fun _ => hS) ?_; rotate_left
                  · intro wS hSw; first | (go_simp; done) | (go_simp; with_reducible rfl)
                  try simp only [Act.put, List.setIfInBounds_toArray, List.set_cons_zero, List.set_cons_succ, List.getElem_toArray, List.getElem_cons_succ, List.getElem_cons_zero]
                  refine AnyLate.take (i := 8) (v := ?_) rfl (by kernel_rfl) (by kernel_rfl) (by kernel_rfl) (by kernel_rfl) (fun _ _ _ h => h) (Or.inl ⟨by rfl, ?_⟩) (fun _ => hS) ?_; rotate_left
                  · intro wS hSw; first | (go_simp; done) | (go_simp; with_reducible rfl)
                  try simp only [Act.put, List.setIfInBounds_toArray, List.set_cons_zero, List.set_cons_succ, List.getElem_toArray, List.getElem_cons_succ, List.getElem_cons_zero]
                  refine AnyLate.take (i := 9) (v := ?_) rfl (by kernel_rfl) (by kernel_rfl) (by kernel_rfl) (by kernel_rfl) (fun _ _ _ h => h) (Or.inl ⟨by rfl, ?_⟩) (fun _ => hS) ?_; rotate_left
                  · intro wS hSw; first | (go_simp; done) | (go_simp; with_reducible rfl)
                  try simp only [Act.put, List.setIfInBounds_toArray, List.set_cons_zero, List.set_cons_succ, List.getElem_toArray, List.getElem_cons_succ, List.getElem_cons_zero]
                  refine AnyLate.take (i := 11) (v := ?_) rfl (by kernel_rfl) (by kernel_rfl) (by kernel_rfl) (by kernel_rfl) (fun _ _ _ h => h) (Or.inl ⟨by rfl, ?_⟩) (fun _ => hS) ?_; rotate_left
                  · intro wS hSw; first | (go_simp; done) | (go_simp; with_reducible rfl)
                  try simp only [Act.put, List.setIfInBounds_toArray, List.set_cons_zero, List.set_cons_succ, List.getElem_toArray, List.getElem_cons_succ, List.getElem_cons_zero]
                  refine AnyLate.ready (rs := [10]) (by kernel_rfl) (by simp) ?_
                  refine AllLate.cons rfl (fun K hK => ?_) ?_
                  ·
                    go_simp
                    go_at_call 34
                    refine (waits_any sb d1 F1 w4 HP4.out.at_).mono ?_
                    rintro e w5 ⟨v5, rfl, ho5, hd5, hb5⟩
                    have HP5 := Lib.hid (HP4.out.below hb5)
                    have HRB5 := Lib.hid (HRB4.out.below hb5)
                    have HO5 := Lib.hid ho5
                    clear ho5 hd5 hb5 hS
                    have hS := And.intro (HRB5.out.cell 0 _ rfl) (HRB5.out.cell 3 _ rfl)
                    refine hK.out _ _ (fun _ => hS) ?_
                    try simp only [Act.put, List.setIfInBounds_toArray, List.set_cons_zero, List.set_cons_succ, List.getElem_toArray, List.getElem_cons_succ, List.getElem_cons_zero]
                    refine AnyLate.ready (rs := [12]) (by kernel_rfl) (by simp) ?_
                    refine AllLate.cons rfl (fun K hK => ?_) ?_
                    ·
                      go_simp
                      go_at_call 35
                      refine (rwaits_any rb d1 G1 w5 HP5.out.rt).mono ?_
                      rintro e w6 ⟨v6, rfl, ho6, hb6⟩
                      have HP6 := Lib.hid (HP5.out.below hb6)
                      have HRB6 := Lib.hid (HRB5.out.below hb6)
                      have HO6 := Lib.hid ho6
                      have HO56 := Lib.hid ((Sh.own HO5.out).below hb6)
                      clear ho6 hb6 hS
                      have hS := And.intro (HRB6.out.cell 0 _ rfl) (HRB6.out.cell 3 _ rfl)
                      refine hK.out _ _ (fun _ => hS) ?_
                      try simp only [Act.put, List.setIfInBounds_toArray, List.set_cons_zero, List.set_cons_succ, List.getElem_toArray, List.getElem_cons_succ, List.getElem_cons_zero]
                      refine AnyLate.ready (rs := [13]) (by kernel_rfl) (by simp) ?_
                      refine AllLate.cons rfl (fun K hK => ?_) ?_
                      ·
                        go_simp
                        go_at_call 33
                        refine (ints_same v5 v6 d1.waitsZ w6 (by rw [waitsZ_len]; exact HO56.out) (by rw [waitsZ_len]; exact Sh.own HO6.out) (by rw [waitsZ_len]; have := waiting_len d1; have := HFEW.out; omega)).mono ?_
                        rintro e w7 ⟨rfl, hb7⟩
                        have HP7 := Lib.hid (HP6.out.below hb7)
                        have HRB7 := Lib.hid (HRB6.out.below hb7)
                        clear hb7 hS
                        have hS := And.intro (HRB7.out.cell 0 _ rfl) (HRB7.out.cell 3 _ rfl)
                        refine hK.out _ _ (fun _ => hS) ?_
                        try simp only [Act.put, List.setIfInBounds_toArray, List.set_cons_zero, List.set_cons_succ, List.getElem_toArray, List.getElem_cons_succ, List.getElem_cons_zero]
                        refine AnyLate.take (i := 14) (v := ?_) rfl (by kernel_rfl) (by kernel_rfl) (by kernel_rfl) (by kernel_rfl) (fun _ _ _ h => h) (Or.inl ⟨by rfl, ?_⟩) (fun _ => hS) ?_; rotate_left
                        · intro wS hSw; first | (go_simp; done) | (go_simp; with_reducible rfl)
                        try simp only [Act.put, List.setIfInBounds_toArray, List.set_cons_zero, List.set_cons_succ, List.getElem_toArray, List.getElem_cons_succ, List.getElem_cons_zero]
                        refine AnyLate.take (i := 15) (v := ?_) rfl (by kernel_rfl) (by kernel_rfl) (by kernel_rfl) (by kernel_rfl) (fun _ _ _ h => h) (Or.inl ⟨by rfl, ?_⟩) (fun _ => hS) ?_; rotate_left
                        · intro wS hSw; first | (go_simp; done) | (go_simp; with_reducible rfl)
                        try simp only [Act.put, List.setIfInBounds_toArray, List.set_cons_zero, List.set_cons_succ, List.getElem_toArray, List.getElem_cons_succ, List.getElem_cons_zero]
                        refine AnyLate.take (i := 16) (v := ?_) rfl (by kernel_rfl) (by kernel_rfl) (by kernel_rfl) (by kernel_rfl) (fun _ _ _ h => h) (Or.inl ⟨by rfl, ?_⟩) (fun _ => hS) ?_; rotate_left
                        · intro wS hSw; first | (go_simp; done) | (go_simp; with_reducible rfl)
                        try simp only [Act.put, List.setIfInBounds_toArray, List.set_cons_zero, List.set_cons_succ, List.getElem_toArray, List.getElem_cons_succ, List.getElem_cons_zero]
                        refine AnyLate.take (i := 17) (v := ?_) rfl (by kernel_rfl) (by kernel_rfl) (by kernel_rfl) (by kernel_rfl) (fun _ _ _ h => h) (Or.inl ⟨by rfl, ?_⟩) (fun _ => hS) ?_; rotate_left
                        · intro wS hSw; first | (go_simp; done) | (go_simp; with_reducible rfl)
                        try simp only [Act.put, List.setIfInBounds_toArray, List.set_cons_zero, List.set_cons_succ, List.getElem_toArray, List.getElem_cons_succ, List.getElem_cons_zero]
                        refine AnyLate.take (i := 19) (v := ?_) rfl (by kernel_rfl) (by kernel_rfl) (by kernel_rfl) (by kernel_rfl) (fun _ _ _ h => h) (Or.inl ⟨by rfl, ?_⟩) (fun _ => hS) ?_; rotate_left
                        · intro wS hSw; first | (go_simp; done) | (go_simp; with_reducible rfl)
                        try simp only [Act.put, List.setIfInBounds_toArray, List.set_cons_zero, List.set_cons_succ, List.getElem_toArray, List.getElem_cons_succ, List.getElem_cons_zero]
                        refine AnyLate.take (i := 20) (v := ?_) rfl (by kernel_rfl) (by kernel_rfl) (by kernel_rfl) (by kernel_rfl) (fun _ _ _ h => h) (Or.inl ⟨by rfl, ?_⟩) (fun _ => hS) ?_; rotate_left
                        · intro wS hSw; first | (go_simp; done) | (go_simp; with_reducible rfl)
                        try simp only [Act.put, List.setIfInBounds_toArray, List.set_cons_zero, List.set_cons_succ, List.getElem_toArray, List.getElem_cons_succ, List.getElem_cons_zero]
                        refine AnyLate.take (i := 21) (v := ?_) rfl (by kernel_rfl) (by kernel_rfl) (by kernel_rfl) (by kernel_rfl) (fun _ _ _ h => h) (Or.inl ⟨by rfl, ?_⟩) (fun _ => hS) ?_; rotate_left
                        · intro wS hSw; first | (go_simp; done) | (go_simp; with_reducible rfl)
                        try simp only [Act.put, List.setIfInBounds_toArray, List.set_cons_zero, List.set_cons_succ, List.getElem_toArray, List.getElem_cons_succ, List.getElem_cons_zero]
                        refine AnyLate.load (i := 22) (v := ?_) rfl (by kernel_rfl) (by kernel_rfl) (by kernel_rfl) (by kernel_rfl) (fun _ _ _ h => h) (Or.inl ⟨by rfl, ?_⟩) hS ?_; rotate_left
                        · intro wS hSw; obtain ⟨cS0, cS1⟩ := hSw; first | (go_simp; done) | (go_simp; with_reducible rfl)
                        try simp only [Act.put, List.setIfInBounds_toArray, List.set_cons_zero, List.set_cons_succ, List.getElem_toArray, List.getElem_cons_succ, List.getElem_cons_zero]
                        refine AnyLate.ready (rs := [18]) (by kernel_rfl) (by simp) ?_
                        refine AllLate.cons rfl (fun K hK => ?_) ?_
                        ·
                          go_simp
                          go_at_call 36
                          refine (accesses_any sb d1 F1 w7 HP7.out.at_).mono ?_
                          rintro e w8 ⟨rfl, rfl⟩
                          refine hK.out _ _ (fun _ => hS) ?_
                          try simp only [Act.put, List.setIfInBounds_toArray, List.set_cons_zero, List.set_cons_succ, List.getElem_toArray, List.getElem_cons_succ, List.getElem_cons_zero]
                          refine AnyLate.take (i := 23) (v := ?_) rfl (by kernel_rfl) (by kernel_rfl) (by kernel_rfl) (by kernel_rfl) (fun _ _ _ h => h) (Or.inl ⟨by rfl, ?_⟩) (fun _ => hS) ?_; rotate_left
                          · intro wS hSw; first | (go_simp; done) | (go_simp; with_reducible rfl)
                          try simp only [Act.put, List.setIfInBounds_toArray, List.set_cons_zero, List.set_cons_succ, List.getElem_toArray, List.getElem_cons_succ, List.getElem_cons_zero]
                          refine AnyLate.take (i := 24) (v := ?_) rfl (by kernel_rfl) (by kernel_rfl) (by kernel_rfl) (by kernel_rfl) (fun _ _ _ h => h) (Or.inl ⟨by rfl, ?_⟩) (fun _ => hS) ?_; rotate_left
                          · intro wS hSw; first | (go_simp; done) | (go_simp; with_reducible rfl)
                          try simp only [Act.put, List.setIfInBounds_toArray, List.set_cons_zero, List.set_cons_succ, List.getElem_toArray, List.getElem_cons_succ, List.getElem_cons_zero]
                          refine AnyLate.done (by kernel_rfl) ?_ _
                          go_wp2_with fail
                          exact ⟨⟨k + 1, F1, G1, d1, by omega, by go_num, HP7.out, HPG1.out, by have := HA1.out; omega⟩, by simp [intOf]; omega⟩
                        exact AllLate.nil
                      exact AllLate.nil
                    exact AllLate.nil
                  exact AllLate.nil
                exact AllLate.nil
              exact AllLate.nil
        · go_wp2_with fail
          refine (told3_any _).mono ?_
          rintro e w3 ⟨rfl, hbel⟩
          have H2 := Lib.hid (H.out.below hbel)
          clear hbel
          go_wp2
          go_ret
          exact ⟨rfl, H2.out.bel⟩
end Go.Proofs.Ytcapfahhoijblaa
