/- DiskFails: the walk. No condition. -/
import Derived.Test.YtjpjlkphiaaknaaBytes3
set_option linter.unusedVariables false
set_option linter.unusedSimpArgs false
set_option maxRecDepth 100000
namespace Go.Proofs.Ytjpjlkphiaaknaa
open Go.RowKit
theorem uwrap_mod (n : Int) (m : Nat) (hm : 0 < m) (hm2 : m ≤ 1000000) : ∃ k : Nat, wrap64 ((IntKind.u64.wrap n).tmod (m : Int)) = (k : Int) ∧ k < m := by
  have h0 : 0 ≤ IntKind.u64.wrap n ∧ IntKind.u64.wrap n < 18446744073709551616 := by
    rw [IntKind.wrap_u64]; omega
  generalize IntKind.u64.wrap n = u at h0
  obtain ⟨a, rfl⟩ := Int.eq_ofNat_of_zero_le h0.1
  refine ⟨a % m, ?_, Nat.mod_lt _ hm⟩
  have h1 : ((a : Int).tmod (m : Int)) = ((a % m : Nat) : Int) := rfl
  rw [h1]
  have h2 : a % m < m := Nat.mod_lt _ hm
  generalize a % m = b at h2
  unfold wrap64; omega
def fl (k i : Nat) : Int := if i ≤ k then (k : Int) - i + 1 else 0
def FailsRel (k : Nat) (w : World) (sb : Nat) (last i : Value) (wr : World) : Prop :=
  ∃ (j : Nat) (x : Int) (F : Nat → Prop) (d : Dk), 1 ≤ j ∧ j ≤ 21 ∧ i = .int .i64 j ∧ last = .int .u8 x ∧ DAt w.heap.size w wr F sb d ∧ d.acc = (j : Int) - 1 ∧ d.fails = fl k j ∧ d.down = false ∧ d.pages.length = 1 ∧ d.get 0 = rep24 x
theorem hit_facts {k j : Nat} {d : Dk} (hj : 1 ≤ j) (ha : d.acc = (j : Int) - 1) (hf : d.fails = fl k j) (hd : d.down = false) : d.hit.acc = ((j + 1 : Nat) : Int) - 1 ∧ d.hit.fails = fl k (j + 1) ∧ d.hit.down = false ∧ (j = k → d.code = 9) ∧ (j ≠ k → d.code = 0) := by
  obtain ⟨pages, waits, acc, fails, down⟩ := d
  simp only at ha hf hd
  subst ha; subst hf; subst hd
  have he : Dk.hit ⟨pages, waits, (j : Int) - 1, fl k j, false⟩ = ⟨pages, waits, (j : Int) - 1 + 1, if 0 < fl k j then fl k j - 1 else fl k j, false⟩ := by simp [Dk.hit]
  rw [he]
  refine ⟨?_, ?_, rfl, ?_, ?_⟩
  · show (j : Int) - 1 + 1 = _; omega
  · show (if 0 < fl k j then fl k j - 1 else fl k j) = fl k (j + 1)
    unfold fl; split <;> split <;> split <;> omega
  · rintro rfl; simp [Dk.code, fl]
  · intro h; simp only [Dk.code, fl]
    by_cases h2 : j ≤ k
    · simp [h2]; omega
    · simp [h2]
theorem Dk.put_get (d : Dk) (l : List Int) : (d.put 0 l).get 0 = l := by simp [Dk.put, Dk.get, upd]
set_option maxHeartbeats 1000000 in
theorem fails_walk (n : Int) (h0 : -9223372036854775808 ≤ n) (h1 : n ≤ 9223372036854775807) (w : World) : Calls Try.prog 6 #[.int .i64 n] w (ToldTo w) := by
  obtain ⟨k, hk0, hk21⟩ := uwrap_mod n 21 (by omega) (by omega)
  have hk : wrap64 ((IntKind.u64.wrap n).tmod 21) = (k : Int) := hk0
  clear hk0
  have hok : Dk.failOk (k : Int) = true := by simp [Dk.failOk]; omega
  have hfd : (fresh 1).fail (k : Int) = { fresh 1 with fails := k } := by unfold Dk.fail; rw [if_pos (by omega)]
  have HOK := Lib.hid hok
  have HFD := Lib.hid hfd
  clear h0 h1 hok hfd
  go_enter Try.func6, Try.ntmps6
  go_wp2_with (first | (go_at_call 20; refine (new_any 1 w (by omega) (by omega)).mono ?_; rintro e w1 ⟨sb, rfl, hd, hsb, hb1⟩) | (go_at_call 30; refine (fail_any sb (fresh 1) k _ w1 hd).mono ?_; rintro e w2 ⟨rfl, hd2, hf2⟩; rw [HOK.out]))
  have hd1 : DAt w.heap.size w w1 (fun b => w.heap.size ≤ b ∧ b < w1.heap.size) sb (fresh 1) := ⟨hd.bound, fun b hb => hb.1, fun b hb => hb.2, hb1, Nat.le_refl _⟩
  rw [HFD.out] at hd2
  have h2 := hd1.step hd2.bound hf2 (fun b hb e => by subst e; exact hd1.sb) (fun b h => by rcases Nat.lt_or_ge b w1.heap.size with h' | h'; exact .inl ⟨h.1, h'⟩; exact .inr h')
  have H2 := Lib.hid h2
  clear h2 hd1 hd2 hf2 hb1 hd hsb
  go_loopw [5, 6] (fun last i wr => FailsRel k w sb last i wr) (fun _ i _ => 21 - (intOf i).toNat)
  case atStart =>
    refine ⟨1, 0, _, _, by omega, by omega, rfl, rfl, H2.out, rfl, ?_, rfl, rfl, rfl⟩
    show (k : Int) = fl k 1
    unfold fl; split <;> omega
  case round =>
    obtain ⟨j, x, F, d, hj1, hj2, rfl, rfl, hd, hacc, hfl, hdn, hlen, hget⟩ := hrel
    have hh := hit_facts hj1 hacc hfl hdn
    have HH := Lib.hid hh
    have HD := Lib.hid hd
    have HL := Lib.hid hlen
    have HG := Lib.hid hget
    have HA := Lib.hid hacc
    clear hh hd hlen hget hacc hfl hdn
    by_cases hlt : j ≤ 20
    · have hle : (j : Int) ≤ 20 := by omega
      by_cases hodd : j % 2 = 1
      · have ho1 : ((j : Int) % 2 == 1) = true := by simp; omega
        clear hodd
        by_cases hk1 : j = k
        · have hb1 : ((j : Int) == (k : Int)) = true := by simp [hk1]
          have HK := Lib.hid hk1
          clear hk1
          go_wp2_with fail
          refine (bytes3_any (j : Int) wr).mono ?_
          rintro e w1 ⟨rfl, hb, hbel⟩
          have h1 := HD.out.same (Fr.of_below hbel (fun _ => False)) (fun _ _ h => h.elim) (HD.out.bel.trans (hbel.mono HD.out.bel.size))
          have H1 := Lib.hid h1
          clear h1 hb hbel
          go_wp2_with fail
          refine (write_no sb d 0 _ _ _ w1 H1.out.at_ (by rw [HL.out]; omega) (by rw [HA.out]; omega) (by rw [HH.out.2.2.2.1 HK.out]; omega)).mono ?_
          rintro e w2 ⟨rfl, hd2, hf2⟩
          have H2 := Lib.hid (H1.out.step hd2 hf2 (fun b hb e => by subst e; exact H1.out.sb) (fun b h => .inl h))
          clear hd2 hf2
          rw [HH.out.2.2.2.1 HK.out]
          go_wp2
          exact ⟨⟨j + 1, x, _, _, by omega, by omega, rfl, rfl, H2.out, HH.out.1, HH.out.2.1, HH.out.2.2.1, by rw [Dk.hit_pages, HL.out], by rw [Dk.hit_get, HG.out]⟩, by simp [intOf]; omega⟩
        · have hb1 : ((j : Int) == (k : Int)) = false := by simp; omega
          have HK := Lib.hid hk1
          clear hk1
          go_wp2_with fail
          refine (bytes3_any (j : Int) wr).mono ?_
          rintro e w1 ⟨rfl, hb, hbel⟩
          have h1 := HD.out.same (Fr.of_below hbel (fun _ => False)) (fun _ _ h => h.elim) (HD.out.bel.trans (hbel.mono HD.out.bel.size))
          have hne : wr.heap.size ≠ sb := fun e => by have := HD.out.at_.own.2; omega
          have HB := Lib.hid hb
          have H1 := Lib.hid h1
          clear h1 hb hbel
          go_wp2_with fail
          refine (write_ok sb d 0 ⟨wr.heap.size, 0, none⟩ _ (rep24 (j : Int)) _ w1 H1.out.at_ (by rw [HL.out]; omega) (by rw [HA.out]; omega) (HH.out.2.2.2.2 HK.out) rfl (blk_news HB.out (part24_full _)) hne).mono ?_
          rintro e w2 ⟨rfl, hd2, hf2⟩
          have H2 := Lib.hid (H1.out.step hd2 hf2 (fun b hb h => h) (fun b h => h))
          clear hd2 hf2
          go_wp2
          exact ⟨⟨j + 1, j, _, _, by omega, by omega, rfl, rfl, H2.out, HH.out.1, HH.out.2.1, HH.out.2.2.1, by show d.hit.pages.length = 1; rw [Dk.hit_pages, HL.out], Dk.put_get _ _⟩, by simp [intOf]; omega⟩
      · have ho1 : ((j : Int) % 2 == 1) = false := by simp; omega
        clear hodd
        by_cases hk1 : j = k
        · have hb1 : ((j : Int) == (k : Int)) = true := by simp [hk1]
          have HK := Lib.hid hk1
          clear hk1
          go_wp2_with fail
          refine (read_no sb d 0 _ wr HD.out.at_ (by rw [HL.out]; omega) (by rw [HA.out]; omega) (by rw [HH.out.2.2.2.1 HK.out]; omega)).mono ?_
          rintro e w2 ⟨rfl, hd2, hf2⟩
          have H2 := Lib.hid (HD.out.step hd2 hf2 (fun b hb e => by subst e; exact HD.out.sb) (fun b h => .inl h))
          clear hd2 hf2
          rw [HH.out.2.2.2.1 HK.out]
          go_wp2
          exact ⟨⟨j + 1, x, _, _, by omega, by omega, rfl, rfl, H2.out, HH.out.1, HH.out.2.1, HH.out.2.2.1, by rw [Dk.hit_pages, HL.out], by rw [Dk.hit_get, HG.out]⟩, by simp [intOf]; omega⟩
        · have hb1 : ((j : Int) == (k : Int)) = false := by simp; omega
          have HK := Lib.hid hk1
          clear hk1
          go_wp2_with fail
          refine (read_ok sb d 0 _ wr HD.out.at_ (by rw [HL.out]; omega) (by rw [HA.out]; omega) (HH.out.2.2.2.2 HK.out)).mono ?_
          rintro e w2 ⟨v2, rfl, ho2, hd2, hf2⟩
          rw [HG.out] at ho2
          obtain ⟨g2, c2, rfl, _, _, _, hc2⟩ := own_form ho2 (by omega)
          have k2 : w2.cell? ⟨g2, 0, none⟩ = some (.int .u8 x) := hc2 0 _ rfl
          have H2 := Lib.hid (HD.out.step hd2 hf2 (fun b hb e => by subst e; exact HD.out.sb) (fun b h => .inl h))
          clear hd2 hf2 hc2 ho2
          go_wp2
          exact ⟨⟨j + 1, x, _, _, by omega, by omega, rfl, rfl, H2.out, HH.out.1, HH.out.2.1, HH.out.2.2.1, by rw [Dk.hit_pages, HL.out], by rw [Dk.hit_get, HG.out]⟩, by simp [intOf]; omega⟩
    · have hle : ¬ ((j : Int) ≤ 20) := by omega
      have ha : d.acc = 20 := by rw [HA.out]; omega
      have HAC := Lib.hid ha
      clear ha
      go_wp2_with fail
      refine (told3_any wr).mono ?_
      rintro e w1 ⟨rfl, hbel⟩
      have H1 := Lib.hid (HD.out.same (Fr.of_below hbel (fun _ => False)) (fun _ _ h => h.elim) (HD.out.bel.trans (hbel.mono HD.out.bel.size)))
      clear hbel
      go_wp2_with fail
      refine (accesses_any sb d _ w1 H1.out.at_).mono ?_
      rintro e w2 ⟨rfl, rfl⟩
      rw [HAC.out]
      go_wp2
      go_ret
      exact ⟨rfl, H1.out.bel⟩
end Go.Proofs.Ytjpjlkphiaaknaa
