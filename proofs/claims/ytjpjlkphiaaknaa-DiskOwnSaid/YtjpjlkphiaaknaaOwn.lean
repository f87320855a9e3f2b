/- DiskOwn: the walk. No condition. -/
import Derived.Test.YtjpjlkphiaaknaaBytes3
import Derived.Laws.BytesArg
import Derived.Deep.RegionLaw
import Derived.Deep.RegionHeld3
import Derived.Deep.CutRange
set_option linter.unusedVariables false
set_option linter.unusedSimpArgs false
set_option maxRecDepth 100000
namespace Go.Proofs.Ytjpjlkphiaaknaa
open Go.RowKit
theorem Fr.one (w : World) (p : Addr) (v : Value) : Fr (fun b => b = p.block) w (w.setCell p v) := (Fr.refl _ w).setCell p v (.inl rfl)
theorem DAt.store {B : Nat} {w0 w : World} {F : Nat → Prop} {sb : Nat} {d : Dk} (h : DAt B w0 w F sb d) (p : Addr) (v : Value) (hp : B ≤ p.block) (hn : ¬ F p.block) : DAt B w0 (w.setCell p v) F sb d :=
  h.same (Fr.one w p v) (fun b _ e hF => by subst e; exact hn hF) (h.bel.setCell hp v)
theorem size_setCell (w : World) (p : Addr) (v : Value) : (w.setCell p v).heap.size = w.heap.size := by simp [World.setCell]
theorem own_conv {w : World} {base n g c : Nat} {l : List Int} (h : w.ownsRow base 5 1 (.slice (some ⟨g, 0, none⟩) n c) n (nums l)) (hl : l.length = n) {st : ByteArray} (hst : strOfNums l = st) : (convert 25 9 (.slice (some ⟨g, 0, none⟩) n c)).run Try.prog w = .ok (.string st) w := by
  subst hst
  obtain ⟨_, hc, _⟩ := own_cell h
  refine run_convert_bytes_arg w 25 5 Try.underlying25 Try.underlying5 g 0 n c l hl (fun i hi => ?_) 9 Try.underlying9
  have hk : (nums l)[i]? = some (.int .u8 (l.getD i 0)) := by
    have : i < l.length := by omega
    simp [nums, List.getD, List.getElem?_eq_getElem this]
  simpa using hc i _ hk
theorem blk_conv {w : World} {g n c : Nat} {l : List Int} {cs : Array Value} (h : Blk w g 5 cs) (hcs : cs.toList = nums l) (hl : l.length = n) {st : ByteArray} (hst : strOfNums l = st) : (convert 25 9 (.slice (some ⟨g, 0, none⟩) n c)).run Try.prog w = .ok (.string st) w := by
  subst hst
  refine run_convert_bytes_arg w 25 5 Try.underlying25 Try.underlying5 g 0 n c l hl (fun i hi => ?_) 9 Try.underlying9
  have hk : (nums l)[i]? = some (.int .u8 (l.getD i 0)) := by
    have : i < l.length := by omega
    simp [nums, List.getD, List.getElem?_eq_getElem this]
  rw [← hcs] at hk
  have := h.cell i _ (by simpa using hk)
  simpa using this
def ow1 (c : Int) : Dk := (fresh 1).hit.put 0 (rep24 c)
def ow2 (c : Int) : Dk := (ow1 c).hit
def ow3 (c : Int) : Dk := (ow2 c).hit.sync
theorem ow_pages (c : Int) : (ow1 c).pages.length = 1 ∧ (ow1 c).acc = 1 ∧ (ow1 c).code = 0 ∧ (ow1 c).get 0 = rep24 c ∧ (ow2 c).acc = 2 ∧ (ow2 c).code = 0 ∧ (ow3 c).pages = [rep24 c] := ⟨rfl, rfl, rfl, rfl, rfl, rfl, rfl⟩
set_option maxHeartbeats 4000000 in
theorem own_walk (c : Int) (hc0 : 0 ≤ c) (hc1 : c ≤ 255) (w : World) : Calls Try.prog 8 #[.int .u8 c] w (ToldTo w) := by
  obtain ⟨st, hst⟩ : ∃ s, strOfNums (rep24 c) = s := ⟨_, rfl⟩
  have HST := Lib.hid hst
  clear hst
  go_enter Try.func8, Try.ntmps8
  go_wp2_with fail
  refine (new_any 1 w (by omega) (by omega)).mono ?_
  rintro e w1 ⟨sb, rfl, hd, hsb, hb1⟩
  have h1 : DAt w.heap.size w w1 (fun b => w.heap.size ≤ b ∧ b < w1.heap.size) sb (fresh 1) := ⟨hd.bound, fun b hb => hb.1, fun b hb => hb.2, hb1, Nat.le_refl _⟩
  have H1 := Lib.hid h1
  clear h1 hd hsb hb1
  go_wp2_with fail
  refine (bytes3_any c w1).mono ?_
  rintro e w2 ⟨rfl, hb, hbel⟩
  have h2 := H1.out.same (Fr.of_below hbel (fun _ => False)) (fun _ _ h => h.elim) (H1.out.bel.trans (hbel.mono H1.out.bel.size))
  have hne : w1.heap.size ≠ sb := fun e => by have := H1.out.at_.own.2; omega
  have HS1 := Lib.hid H1.out.bel.size
  have HS2 := Lib.hid hb.lt
  have HB := Lib.hid hb
  have H2 := Lib.hid h2
  clear h2 hb hbel
  go_wp2_with fail
  refine (write_ok sb (fresh 1) 0 ⟨w1.heap.size, 0, none⟩ _ (rep24 c) _ w2 H2.out.at_ (by decide) (by decide) rfl rfl (blk_news HB.out (part24_full _)) hne).mono ?_
  rintro e w3 ⟨rfl, hd3, hf3⟩
  have hb3 := HB.out.fr hf3 (fun h => by have := h.2; omega)
  have h3 := H2.out.step hd3 hf3 (fun b hb h => h) (fun b h => h)
  have c3 : w3.cell? ⟨w1.heap.size, 3, none⟩ = some (.int .u8 c) := hb3.cell 3 _ rfl
  have f3 := hb3.free 3
  have HS3 := Lib.hid hb3.lt
  have hw3 : ∀ v, DAt w.heap.size w (w3.setCell ⟨w1.heap.size, 3, none⟩ v) _ sb _ := fun v => h3.store _ v HS1.out (fun h => by
    have h2 := HS2.out
    rcases h.1 with h' | h'
    · have := h'.2; exact Nat.lt_irrefl _ this
    · exact Nat.lt_irrefl _ (Nat.lt_of_lt_of_le h2 h'))
  have H3 := Lib.hid hw3
  clear hd3 hf3 hb3 h3 hw3 hne
  go_wp2_with fail
  refine (read_ok sb (ow1 c) 0 _ _ (H3.out _).at_ (Nat.zero_lt_one) (by show (1 : Int) < _; omega) rfl).mono ?_
  rintro e w4 ⟨v4, rfl, ho4, hd4, hf4⟩
  rw [(ow_pages c).2.2.2.1] at ho4
  obtain ⟨g4, c4, rfl, _, _, hfr4, hc4⟩ := own_form ho4 (by omega)
  have hg4 : w3.heap.size ≤ g4 := by have := own_ge ho4 g4 rfl; rwa [size_setCell] at this
  have k43 : w4.cell? ⟨g4, 3, none⟩ = some (.int .u8 c) := hc4 3 _ rfl
  have k44 : w4.cell? ⟨g4, 4, none⟩ = some (.int .u8 c) := hc4 4 _ rfl
  have f44 := hfr4 4
  have h4 := (H3.out _).step hd4 hf4 (fun b hb e => by subst e; exact (H3.out (.bool true)).sb) (fun b h => .inl h)
  have hlo : w.heap.size ≤ g4 := Nat.le_trans HS1.out (Nat.le_trans (Nat.le_of_lt HS3.out) hg4)
  have hw4 : ∀ v, DAt w.heap.size w (w4.setCell ⟨g4, 4, none⟩ v) _ sb _ := fun v => h4.store _ v hlo (fun h => Nat.lt_irrefl _ (Nat.lt_of_lt_of_le h.1.2 hg4))
  have H4 := Lib.hid hw4
  have HG4 := Lib.hid hg4
  clear hd4 hf4 h4 hw4 ho4 hfr4 hc4 hg4 hlo c3 f3
  go_wp2_with fail
  refine (sync_ok sb (ow2 c) _ _ (H4.out _).at_ (by show (2 : Int) < _; omega) rfl).mono ?_
  rintro e w5 ⟨rfl, hd5, hf5⟩
  have H5 := Lib.hid ((H4.out _).step hd5 hf5 (fun _ _ h => h) (fun b h => .inl h))
  clear hd5 hf5 k43 k44 f44
  go_wp2_with fail
  refine (durable_any sb (ow3 c) _ w5 H5.out.at_).mono ?_
  rintro e w6 ⟨v6, rfl, ⟨vs, ho6, hrow⟩, hd6, hb6⟩
  rw [(ow_pages c).2.2.2.2.2.2] at ho6 hrow
  obtain ⟨u7, hu7, ho7⟩ := hrow 0 _ rfl
  obtain ⟨g6, c6, rfl, _, hl6, _, hc6⟩ := own_form (show w6.ownsRow w5.heap.size 25 1 v6 1 vs from ho6) (by omega)
  have ho7' : w6.ownsRow w5.heap.size 5 1 u7 24 (nums (rep24 c)) := ho7
  obtain ⟨g7, c7, rfl, _, _, hfr7, hc7⟩ := own_form ho7' (by omega)
  have k6 : w6.cell? ⟨g6, 0, none⟩ = some (.slice (some ⟨g7, 0, none⟩) 24 c7) := hc6 0 _ hu7
  have h6 := H5.out.step hd6 (Fr.of_below hb6 (fun _ => False)) (fun _ _ h => h.elim) (fun b h => .inl h)
  have hg7 := own_ge ho7' g7 rfl
  have hv7 := own_conv ho7' rfl HST.out
  have hv7d := own_conv (w := w6.drew) (own_fr ho7' ((Fr.refl (fun _ => False) w6).drew) (fun _ _ h => h)) rfl HST.out
  have HO7 := Lib.hid ho7'
  have H6 := Lib.hid h6
  have HG7 := Lib.hid hg7
  have HL6 := Lib.hid hl6
  clear hd6 hb6 ho6 hrow ho7 ho7' hc6 hu7 hc7 hfr7 h6 hg7 hl6
  go_wp2_with fail
  go_cut [68] from 56 to 68 (fun s68 wx => s68 = .bool false ∧ Below w6.heap.size w6 wx)
  case first =>
    go_region_law (first | (go_simp; go_at_call 26; refine (bytes3_any c _).mono ?_; rintro e w8 ⟨rfl, hb8, hbel8⟩; have hv8 : (convert 25 9 (.slice (some ⟨w6.heap.size, 0, none⟩) 24 24)).run Try.prog w8 = _ := blk_conv (c := 24) hb8 (part24_full c) rfl HST.out; have hv9 := own_conv (own_below HO7.out (show Below w6.heap.size w6 w8 from ⟨hbel8.os, hbel8.tape, hbel8.output, hbel8.size, hbel8.block⟩)) rfl HST.out; have k8 : w8.cell? ⟨g6, 0, none⟩ = some (.slice (some ⟨g7, 0, none⟩) 24 c7) := (hbel8.cell (p := ⟨g6, 0, none⟩) HL6.out).trans k6))
    all_goals (go_wp2; go_meet; exact ⟨rfl, ⟨hbel8.os, hbel8.tape, hbel8.output, hbel8.size, hbel8.block⟩⟩)
  case rest =>
    obtain ⟨rfl, hbx⟩ := hcut
    have kx : wc.cell? ⟨g6, 0, none⟩ = some (.slice (some ⟨g7, 0, none⟩) 24 c7) := (hbx.cell (p := ⟨g6, 0, none⟩) HL6.out).trans k6
    have hox := own_below HO7.out hbx
    have ox := own_cell hox
    have k7 : wc.cell? ⟨g7, 5, none⟩ = some (.int .u8 c) := ox.2.1 5 _ rfl
    have f7 := ox.1 5
    have hx := H6.out.same (Fr.of_below hbx (fun _ => False)) (fun _ _ h => h.elim) (H6.out.bel.trans (hbx.mono H6.out.bel.size))
    have hlo7 : w.heap.size ≤ g7 := Nat.le_trans H5.out.bel.size HG7.out
    have hn7 : ¬ ((fun b => _ ∧ b < w6.heap.size) g7) := fun h => Nat.lt_irrefl _ (Nat.lt_of_lt_of_le (H5.out.hi _ h.1) HG7.out)
    have hwx : ∀ v, DAt w.heap.size w (wc.drew.setCell ⟨g7, 5, none⟩ v) _ sb (ow3 c) := fun v => (hx.same ((Fr.refl (fun _ => False) wc).drew) (fun _ _ h => h.elim) (hx.bel.drew)).store _ v hlo7 hn7
    have HX := Lib.hid hwx
    clear hbx hox ox hx hlo7 hn7 hwx hv7 hv7d k6
    go_wp2_with fail
    go_region
    go_wp2_with fail
    refine (durable_any sb (ow3 c) _ _ (HX.out _).at_).mono ?_
    rintro e wa ⟨v6, rfl, ⟨vs, ho6, hrow⟩, hd6, hb6⟩
    rw [(ow_pages c).2.2.2.2.2.2] at ho6 hrow
    obtain ⟨u7, hu7, ho7⟩ := hrow 0 _ rfl
    obtain ⟨ga, ca, rfl, _, hla, _, hca⟩ := own_form (show wa.ownsRow _ 25 1 v6 1 vs from ho6) (by omega)
    have ho7' : wa.ownsRow _ 5 1 u7 24 (nums (rep24 c)) := ho7
    obtain ⟨gb, cb, rfl, _, _, hfb, hcb⟩ := own_form ho7' (by omega)
    have ka : wa.cell? ⟨ga, 0, none⟩ = some (.slice (some ⟨gb, 0, none⟩) 24 cb) := hca 0 _ hu7
    have ha := (HX.out _).bel.trans (hb6.mono (HX.out (.int .u8 (bits BinOp.xor IntKind.u8 c 1))).bel.size)
    have HOA := Lib.hid ho7'
    have HA := Lib.hid ha
    have HLA := Lib.hid hla
    clear hd6 hb6 ho6 hrow ho7 ho7' hca hu7 hcb hfb ha hla kx k7 f7
    go_wp2_with fail
    go_cut [2] from 81 to 96 (fun s2 wx => s2 = .bool true ∧ Below w.heap.size w wx)
    case first =>
      have hva := own_conv HOA.out rfl HST.out
      have hvad := own_conv (w := wa.drew) (own_fr HOA.out ((Fr.refl (fun _ => False) wa).drew) (fun _ _ h => h)) rfl HST.out
      set_option warningAsError false in
      go_region_held3 (fun w' => w'.cell? ⟨ga, 0, none⟩ = some (.slice (some ⟨gb, 0, none⟩) 24 cb) ∧ (convert 25 9 (.slice (some ⟨gb, 0, none⟩) 24 cb)).run Try.prog w' = .ok (.string st) w') (first | go_keep) (first
        | (go_at_call 22; refine (told3_any _).mono ?_; rintro e wd ⟨rfl, heldD⟩; have hbd : Below wa.heap.size wa wd := ⟨heldD.os, heldD.tape, heldD.output, heldD.size, heldD.block⟩; have kd := (hbd.cell (p := ⟨ga, 0, none⟩) HLA.out).trans ka; have hod := own_below HOA.out hbd; have hvd := own_conv hod rfl HST.out; have HOD := Lib.hid hod; have HAD := Lib.hid (HA.out.trans (hbd.mono HA.out.size)); have HLD := Lib.hid (Nat.lt_of_lt_of_le HLA.out hbd.size); clear heldD hbd hod)
        | (go_at_call 26; refine (bytes3_any c _).mono ?_; rintro e we ⟨rfl, hbe, hbele⟩; have hv8 : (convert 25 9 (.slice (some ⟨wd.heap.size, 0, none⟩) 24 24)).run Try.prog we = _ := blk_conv (c := 24) hbe (part24_full c) rfl HST.out; have hv9 := own_conv (own_below HOD.out hbele) rfl HST.out; have k8 := (hbele.cell (p := ⟨ga, 0, none⟩) HLD.out).trans kd; have HAE := Lib.hid (HAD.out.trans (hbele.mono HAD.out.size)); clear hbe hbele))
      all_goals (go_wp2; go_meet; exact ⟨rfl, HAE.out⟩)
    case rest =>
      obtain ⟨rfl, hbz⟩ := hcut
      go_wp2
      go_ret
      exact ⟨rfl, hbz⟩
end Go.Proofs.Ytjpjlkphiaaknaa
