/- DiskKeeps: the walk. No condition but that the slice is a row of bytes. -/
import Derived.Test.YtjpjlkphiaaknaaBytes3
import Derived.Deep.CutRange
set_option linter.unusedVariables false
set_option linter.unusedSimpArgs false
set_option maxRecDepth 100000
namespace Go.Proofs.Ytjpjlkphiaaknaa
open Go.RowKit
/-- A row of bytes that came in. -/
def BytesIn (w : World) (A : Option Addr) (n : Nat) (l : List Int) : Prop :=
  l.length = n ∧ (∀ i, i < n → ∃ bb bo, A = some ⟨bb, bo, none⟩ ∧ bb < w.heap.size ∧ w.cell? ⟨bb, bo + i, none⟩ = some (.int .u8 (l.getD i 0))) ∧ ∀ i, 0 ≤ l.getD i 0 ∧ l.getD i 0 ≤ 255
def half2 (x y : Int) : List Int := List.replicate 12 x ++ List.replicate 12 y
theorem half2_x (x y : Int) (i : Nat) (hi : i < 12) : (nums (half2 x y))[i]? = some (.int .u8 x) := by
  simp only [nums, half2, List.map_append, List.map_replicate]
  rw [List.getElem?_append_left (by simp; omega), List.getElem?_replicate, if_pos hi]
theorem half2_y (x y : Int) (i : Nat) (hi : i < 12) : (nums (half2 x y))[12 + i]? = some (.int .u8 y) := by
  simp only [nums, half2, List.map_append, List.map_replicate]
  rw [List.getElem?_append_right (by simp), List.length_replicate, List.getElem?_replicate, if_pos (by omega)]
def keepsD (a : Int) : Dk := ((fresh 1).hit.put 0 (rep24 a)).hit.sync
def keepsD2 (a b : Int) : Dk := (keepsD a).hit.put 0 (rep24 b)
theorem keeps_none (a : Int) (bits : List Int) : ((keepsD a).crash bits).pages = [half2 a a] := rfl
theorem keeps_some (a b : Int) (bits : List Int) : ∃ x y, ((keepsD2 a b).crash bits).pages = [half2 x y] ∧ (x = a ∨ x = b) ∧ (y = a ∨ y = b) := by
  have h : ((keepsD2 a b).crash bits).pages = [tear (what bits 0) (rep24 a) (rep24 b)] := rfl
  rw [h]
  unfold tear
  split
  · exact ⟨b, b, rfl, .inr rfl, .inr rfl⟩
  · split
    · exact ⟨b, a, rfl, .inr rfl, .inl rfl⟩
    · split
      · exact ⟨a, b, rfl, .inl rfl, .inr rfl⟩
      · exact ⟨a, a, rfl, .inl rfl, .inl rfl⟩
/-- Behind the crash. -/
def KeptAt (a b : Int) (wr : Bool) (w : World) (sb : Nat) (wx : World) : Prop :=
  ∃ F d x y, DAt w.heap.size w wx F sb d ∧ d.pages = [half2 x y] ∧ (x = a ∨ wr = true ∧ x = b) ∧ (y = a ∨ wr = true ∧ y = b)
def KeepRel (w w1 : World) (i : Value) (wr : World) : Prop := ∃ k : Nat, k ≤ 12 ∧ i = .int .i64 k ∧ Below w1.heap.size w1 wr ∧ Below w.heap.size w wr
theorem BytesIn.bits {w w' : World} {A : Option Addr} {n : Nat} {l : List Int} (h : BytesIn w A n l) {F : Nat → Prop} {sb : Nat} {d : Dk} (hd : DAt w.heap.size w w' F sb d) :
    ∀ i, i < n → ∃ bb bo, A = some ⟨bb, bo, none⟩ ∧ w'.cell? ⟨bb, bo + i, none⟩ = some (.int .u8 (l.getD i 0)) ∧ ¬ F bb := by
  intro i hi
  obtain ⟨bb, bo, h1, h2, h3⟩ := h.2.1 i hi
  exact ⟨bb, bo, h1, (hd.bel.cell (p := ⟨bb, bo + i, none⟩) h2).trans h3, fun hF => by have := hd.lo _ hF; omega⟩
set_option maxHeartbeats 2000000 in
theorem keeps_walk (a b : Int) (A : Option Addr) (n cp : Nat) (l : List Int) (ww : Bool) (w : World) (hin : BytesIn w A n l) (ha0 : 0 ≤ a) (ha1 : a ≤ 255) (hb0 : 0 ≤ b) (hb1 : b ≤ 255) (hn0 : n ≤ maxLen) :
    Calls Try.prog 5 #[.int .u8 a, .int .u8 b, .slice A n cp, .bool ww] w (ToldTo w) := by
  have HIN := Lib.hid hin
  clear hin
  go_enter Try.func5, Try.ntmps5
  go_wp2_with fail
  refine (new_any 1 w (by omega) (by omega)).mono ?_
  rintro e w1 ⟨sb, rfl, hd, hsb, hb1'⟩
  have h1 : DAt w.heap.size w w1 (fun b => w.heap.size ≤ b ∧ b < w1.heap.size) sb (fresh 1) := ⟨hd.bound, fun b hb => hb.1, fun b hb => hb.2, hb1', Nat.le_refl _⟩
  have H1 := Lib.hid h1
  clear h1 hd hsb hb1'
  by_cases hn : n ≤ 10
  · have hle : ¬ ((n : Int) > 10) := by omega
    go_wp2_with fail
    refine (bytes3_any a w1).mono ?_
    rintro e w2 ⟨rfl, hb, hbel⟩
    have hne : w1.heap.size ≠ sb := fun e => by have := H1.out.at_.own.2; omega
    have HB := Lib.hid hb
    have H2 := Lib.hid (H1.out.same (Fr.of_below hbel (fun _ => False)) (fun _ _ h => h.elim) (H1.out.bel.trans (hbel.mono H1.out.bel.size)))
    clear hb hbel
    go_wp2_with fail
    refine (write_ok sb (fresh 1) 0 ⟨w1.heap.size, 0, none⟩ _ (rep24 a) _ w2 H2.out.at_ (by decide) (by decide) rfl rfl (blk_news HB.out (part24_full _)) hne).mono ?_
    rintro e w3 ⟨rfl, hd3, hf3⟩
    have H3 := Lib.hid (H2.out.step hd3 hf3 (fun b hb h => h) (fun b h => h))
    clear hd3 hf3 hne
    go_wp2_with fail
    refine (sync_ok sb ((fresh 1).hit.put 0 (rep24 a)) _ w3 H3.out.at_ (by show (1 : Int) < _; omega) rfl).mono ?_
    rintro e w4 ⟨rfl, hd4, hf4⟩
    have H4 := Lib.hid (H3.out.step hd4 hf4 (fun _ _ h => h) (fun b h => .inl h))
    clear hd4 hf4
    go_upto_region 4 with fail
    go_cut [53] from 40 to 53 (fun s53 wx => s53 = .bool false ∧ KeptAt a b ww w sb wx)
    case first =>
      cases ww with
      | false =>
        go_wp2_with fail
        refine (crash_any sb (keepsD a) l A n cp _ w4 H4.out.at_ rfl HIN.out.1 (by omega) (HIN.out.bits H4.out) HIN.out.2.2).mono ?_
        rintro e w5 ⟨rfl, hd5, hf5⟩
        have H5 := Lib.hid (H4.out.step hd5 hf5 (fun _ _ h => h) (fun b h => h))
        clear hd5 hf5
        rw [show (!(keepsD a).down) = true from rfl]
        go_wp2
        go_meet
        exact ⟨rfl, _, _, a, a, H5.out, keeps_none a l, .inl rfl, .inl rfl⟩
      | true =>
        go_wp2_with fail
        refine (bytes3_any b w4).mono ?_
        rintro e w5 ⟨rfl, hb, hbel⟩
        have hne : w4.heap.size ≠ sb := fun e => by have := H4.out.at_.own.2; omega
        have HB5 := Lib.hid hb
        have H5 := Lib.hid (H4.out.same (Fr.of_below hbel (fun _ => False)) (fun _ _ h => h.elim) (H4.out.bel.trans (hbel.mono H4.out.bel.size)))
        clear hb hbel
        go_wp2_with fail
        refine (write_ok sb (keepsD a) 0 ⟨w4.heap.size, 0, none⟩ _ (rep24 b) _ w5 H5.out.at_ (by show 0 < 1; omega) (by show (2 : Int) < _; omega) rfl rfl (blk_news HB5.out (part24_full _)) hne).mono ?_
        rintro e w6 ⟨rfl, hd6, hf6⟩
        have H6 := Lib.hid (H5.out.step hd6 hf6 (fun b hb h => h) (fun b h => h))
        clear hd6 hf6 hne
        go_wp2_with fail
        refine (crash_any sb (keepsD2 a b) l A n cp _ w6 H6.out.at_ rfl HIN.out.1 (by omega) (HIN.out.bits H6.out) HIN.out.2.2).mono ?_
        rintro e w7 ⟨rfl, hd7, hf7⟩
        obtain ⟨x, y, hp, hx, hy⟩ := keeps_some a b l
        have H7 := Lib.hid (H6.out.step hd7 hf7 (fun _ _ h => h) (fun b h => h))
        have HP := Lib.hid (And.intro hp (And.intro hx hy))
        clear hd7 hf7 hp hx hy
        rw [show (!(keepsD2 a b).down) = true from rfl]
        go_wp2
        go_meet
        exact ⟨rfl, _, _, x, y, H7.out, HP.out.1, HP.out.2.1.imp id (fun h => ⟨rfl, h⟩), HP.out.2.2.imp id (fun h => ⟨rfl, h⟩)⟩
    case rest =>
      obtain ⟨rfl, F, d, x, y, hk, hpg, hx, hy⟩ := hcut
      have HK := Lib.hid hk
      have HPG := Lib.hid hpg
      have HX := Lib.hid hx
      have HY := Lib.hid hy
      clear hk hpg hx hy
      go_wp2_with fail
      refine (durable_any sb d _ wc HK.out.at_).mono ?_
      rintro e wa ⟨v6, rfl, ⟨vs, ho6, hrow⟩, hd6, hb6⟩
      rw [HPG.out] at ho6 hrow
      obtain ⟨u7, hu7, ho7⟩ := hrow 0 _ rfl
      obtain ⟨ga, ca, rfl, _, _, _, hca⟩ := own_form (show wa.ownsRow _ 25 1 v6 1 vs from ho6) (by omega)
      have ho7' : wa.ownsRow _ 5 1 u7 24 (nums (half2 x y)) := ho7
      obtain ⟨gb, cb, rfl, hcap, hlb, _, hcb⟩ := own_form ho7' (by omega)
      have ka : wa.cell? ⟨ga, 0, none⟩ = some (.slice (some ⟨gb, 0, none⟩) 24 cb) := hca 0 _ hu7
      have hx : ∀ i, i < 12 → wa.cell? ⟨gb, i, none⟩ = some (.int .u8 x) := fun i hi => hcb i _ (half2_x x y i hi)
      have hy : ∀ i, i < 12 → wa.cell? ⟨gb, 12 + i, none⟩ = some (.int .u8 y) := fun i hi => hcb (12 + i) _ (half2_y x y i hi)
      have h6 := HK.out.bel.trans (hb6.mono HK.out.bel.size)
      have HX6 := Lib.hid hx
      have HY6 := Lib.hid hy
      have HB6 := Lib.hid h6
      have HLB := Lib.hid hlb
      have hcap1 : (12 : Int) ≤ cb := by omega
      have hcap2 : (24 : Int) ≤ cb := by omega
      clear hx hy h6 hlb ho6 hrow hd6 hb6 ho7 ho7' hca hu7 hcb
      go_wp2_with fail
      go_region
      go_wp2
      go_loopw [13] (fun i wr => KeepRel w wa i wr) (fun i _ => 12 - (intOf i).toNat)
      case atStart => exact ⟨0, by omega, rfl, (Below.refl _ _).drew, HB6.out.drew⟩
      case round =>
        obtain ⟨k, hk, rfl, hbk, hbw⟩ := hrel
        have HBK := Lib.hid hbk
        have HBW := Lib.hid hbw
        clear hbk hbw
        by_cases hlt : k < 12
        · have hcx : ∀ i, i < 12 → wr.cell? ⟨gb, i, none⟩ = some (.int .u8 x) := fun i hi => (HBK.out.cell (p := ⟨gb, i, none⟩) HLB.out).trans (HX6.out i hi)
          have hcy : ∀ i, i < 12 → wr.cell? ⟨gb, 12 + i, none⟩ = some (.int .u8 y) := fun i hi => (HBK.out.cell (p := ⟨gb, 12 + i, none⟩) HLB.out).trans (HY6.out i hi)
          have cx0 := hcx 0 (by omega)
          have cxk := hcx k hlt
          have cy0 : wr.cell? ⟨gb, 12, none⟩ = some (.int .u8 y) := hcy 0 (by omega)
          have cyk := hcy k hlt
          clear hcx hcy
          have hxx : (x != a) = false ∨ ((x != a) = true ∧ ww = true ∧ (x != b) = false) := by
            by_cases h : x = a
            · exact .inl (by simp [h])
            · rcases HX.out with h' | h'
              · exact absurd h' h
              · exact .inr ⟨by simpa using h, h'.1, by simp [h'.2]⟩
          have hyy : (y != a) = false ∨ ((y != a) = true ∧ ww = true ∧ (y != b) = false) := by
            by_cases h : y = a
            · exact .inl (by simp [h])
            · rcases HY.out with h' | h'
              · exact absurd h' h
              · exact .inr ⟨by simpa using h, h'.1, by simp [h'.2]⟩
          go_wp2_with fail
          go_cut [131] from 74 to 131 (fun s131 wx => s131 = .bool false ∧ Below wa.heap.size wa wx ∧ Below w.heap.size w wx)
          case first =>
            rcases hxx with h1 | ⟨h1, rfl, h2⟩ <;> rcases hyy with h3 | ⟨h3, h4, h5⟩
            all_goals (try subst h4)
            all_goals (go_region; go_wp2; go_meet; exact ⟨rfl, HBK.out.drew, HBW.out.drew⟩)
          case rest =>
            obtain ⟨rfl, hb1, hb2⟩ := hcut
            have HB1 := Lib.hid hb1
            have HB2 := Lib.hid hb2
            clear hb1 hb2
            go_wp2
            exact ⟨⟨k + 1, by omega, by go_num, HB1.out, HB2.out⟩, by simp [intOf]; omega⟩
        · have hk12 : k = 12 := by omega
          subst hk12
          go_wp2_with fail
          refine (told3_any _).mono ?_
          rintro e w2 ⟨rfl, hbel⟩
          have H2 := Lib.hid (HBW.out.trans (hbel.mono HBW.out.size))
          clear hbel
          go_wp2
          go_ret
          exact ⟨rfl, H2.out⟩
  · have hgt : (n : Int) > 10 := by omega
    go_wp2_with fail
    refine (told3_any w1).mono ?_
    rintro e w2 ⟨rfl, hbel⟩
    have H2 := Lib.hid (H1.out.bel.trans (hbel.mono H1.out.bel.size))
    clear hbel
    go_wp2
    go_ret
    exact ⟨rfl, H2.out⟩
end Go.Proofs.Ytjpjlkphiaaknaa
