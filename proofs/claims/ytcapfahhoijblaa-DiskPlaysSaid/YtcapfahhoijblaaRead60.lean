/- DiskReads: the walk. No condition but that the slice is a row of steps. -/
import Derived.Test.YtcapfahhoijblaaBytes3
import Derived.Laws.MakeOwn
import Derived.Deep.CutRange
set_option linter.unusedVariables false
set_option linter.unusedSimpArgs false
set_option maxRecDepth 100000
namespace Go.Proofs.Ytcapfahhoijblaa
open Go.RowKit
theorem uwrap_mod (n : Int) (m : Nat) (hm : 0 < m) (hm2 : m ≤ 1000000) : ∃ k : Nat, wrap64 ((IntKind.u64.wrap n).tmod (m : Int)) = (k : Int) ∧ k < m := by
  have h0 : 0 ≤ IntKind.u64.wrap n ∧ IntKind.u64.wrap n < 18446744073709551616 := by
    rw [IntKind.wrap_u64]; omega
  generalize IntKind.u64.wrap n = u at h0
  obtain ⟨a, rfl⟩ := Int.eq_ofNat_of_zero_le h0.1
  refine ⟨a % m, ?_, Nat.mod_lt _ hm⟩
  have h1 : ((a : Int).tmod (m : Int)) = ((a % m : Nat) : Int) := rfl
  rw [h1]
  have h2 : a % m < m := Nat.mod_lt _ hm
  generalize a % m = b at h2
  unfold wrap64; omega
/-- A step of a device, as it came in. -/
structure OpD where
  kind : Int
  p : Int
  n : Int
  c : Int
  b : List Int
/-- A row of steps that came in. -/
def OpsIn (w : World) (A : Option Addr) (n : Nat) (l : List OpD) : Prop :=
  l.length = n ∧ ∀ (i : Nat) (o : OpD), l[i]? = some o → ∃ (bb bo : Nat) (B : Option Addr) (m cap : Nat), A = some ⟨bb, bo, none⟩ ∧ bb < w.heap.size ∧ w.cell? ⟨bb, bo + i * 5, none⟩ = some (.int .i64 o.kind) ∧ w.cell? ⟨bb, bo + i * 5 + 1, none⟩ = some (.int .i64 o.p) ∧
    w.cell? ⟨bb, bo + i * 5 + 2, none⟩ = some (.int .i64 o.n) ∧ w.cell? ⟨bb, bo + i * 5 + 3, none⟩ = some (.int .u8 o.c) ∧ w.cell? ⟨bb, bo + i * 5 + 4, none⟩ = some (.slice B m cap) ∧ BytesIn w B m o.b ∧ m ≤ cap ∧ cap ≤ maxLen ∧
    (-9223372036854775808 ≤ o.kind ∧ o.kind ≤ 9223372036854775807) ∧ (-9223372036854775808 ≤ o.p ∧ o.p ≤ 9223372036854775807) ∧ (-9223372036854775808 ≤ o.n ∧ o.n ≤ 9223372036854775807) ∧ (0 ≤ o.c ∧ o.c ≤ 255)
def row8 (l : List Int) : Array Value := (nums l).toArray
theorem row8_list (l : List Int) : (row8 l).toList = nums l := by simp [row8]
theorem row8_get (l : List Int) (i : Nat) (h : i < l.length) : (row8 l)[i]? = some (.int .u8 (l.getD i 0)) := by
  simp [row8, nums, List.getD, h]
theorem row8_set (l : List Int) (i : Nat) (c : Int) : (row8 l).setIfInBounds i (.int .u8 c) = row8 (l.set i c) := by
  apply Array.ext'
  simp [row8, nums, List.map_set]
theorem made8 (n : Nat) (w : World) (hn : n ≤ 1000000) : (Instr.makeSlice 25 (.int .i64 (n : Int)) (.int .i64 (n : Int))).run Try.prog w = .ok (.slice (some ⟨w.heap.size, 0, none⟩) n n) (w.alloc (.cells (row8 (List.replicate n 0)) 5)) := by
  obtain ⟨i0, hi, hz0, hz1, hz2⟩ := info_parts Try.info5
  have h := run_make (P := Try.prog) w 25 5 i0 (.int .u8 0) Try.underlying25 hi hz0 .i64 .i64 (n : Int) (n : Int) (by omega) (Int.le_refl _) (by rw [hz2]; omega) (by omega)
  rw [h]
  have e : madeCells (Value.int IntKind.u8 0).cells ((n : Int).toNat * i0.size) = row8 (List.replicate n 0) := by
    rw [hz1]
    apply Array.ext
    · simp [size_madeCells, row8, nums]
    · intro j h1 h2
      simp [madeCells, row8, nums, Value.cells, Nat.mod_one]
  rw [e]; simp
/-- The device of DiskReads, and what was written last. -/
structure RdAt (B : Nat) (w0 w : World) (n sb lb : Nat) (top : Int) (ls : List Int) (F : Nat → Prop) (d : Dk) : Prop where
  at_ : DAt B w0 w F sb d
  nF : ¬ F lb
  lo : B ≤ lb
  blk : Blk w lb 5 (row8 ls)
  len : ls.length = n
  pg : d.pages.length = n
  fl : d.fails = 0
  dn : d.down = false
  acc : d.acc ≤ top
  get : ∀ q, q < n → d.get q = rep24 (ls.getD q 0)
theorem RdAt.code {B : Nat} {w0 w : World} {n sb lb : Nat} {top : Int} {ls : List Int} {F : Nat → Prop} {d : Dk} (h : RdAt B w0 w n sb lb top ls F d) : d.code = 0 := by
  unfold Dk.code; rw [h.dn, h.fl]; rfl
theorem RdAt.hit {B : Nat} {w0 w : World} {n sb lb : Nat} {top : Int} {ls : List Int} {F : Nat → Prop} {d : Dk} (h : RdAt B w0 w n sb lb top ls F d) : d.hit.acc = d.acc + 1 ∧ d.hit.fails = 0 ∧ d.hit.down = false ∧ d.hit.pages.length = n := by
  refine ⟨?_, ?_, by rw [Dk.hit_down, h.dn], by rw [Dk.hit_pages, h.pg]⟩ <;> unfold Dk.hit <;> rw [h.dn] <;> simp [h.fl]
theorem RdAt.ne {B : Nat} {w0 w : World} {n sb lb : Nat} {top : Int} {ls : List Int} {F : Nat → Prop} {d : Dk} (h : RdAt B w0 w n sb lb top ls F d) : lb ≠ sb := fun e => h.nF (e ▸ h.at_.sb)
theorem RdAt.below {B : Nat} {w0 w w1 : World} {n sb lb : Nat} {top : Int} {ls : List Int} {F : Nat → Prop} {d : Dk} (h : RdAt B w0 w n sb lb top ls F d) (hb : Below w.heap.size w w1) : RdAt B w0 w1 n sb lb top ls F d :=
  ⟨h.at_.same (Fr.of_below hb (fun _ => False)) (fun _ _ h => h.elim) (h.at_.bel.trans (hb.mono (Nat.le_trans h.at_.lb h.at_.bel.size))), h.nF, h.lo, h.blk.fr (Fr.of_below hb (fun _ => False)) (fun h => h), h.len, h.pg, h.fl, h.dn, h.acc, h.get⟩
theorem RdAt.drewN {B : Nat} {w0 w : World} {n sb lb : Nat} {top : Int} {ls : List Int} {F : Nat → Prop} {d : Dk} (h : RdAt B w0 w n sb lb top ls F d) (k : Nat) : RdAt B w0 (w.drewN k) n sb lb top ls F d :=
  h.below ⟨rfl, rfl, rfl, Nat.le_refl _, fun _ _ => rfl⟩
theorem RdAt.more {B : Nat} {w0 w : World} {n sb lb : Nat} {top t2 : Int} {ls : List Int} {F : Nat → Prop} {d : Dk} (h : RdAt B w0 w n sb lb top ls F d) (ht : d.acc ≤ t2) : RdAt B w0 w n sb lb t2 ls F d :=
  ⟨h.at_, h.nF, h.lo, h.blk, h.len, h.pg, h.fl, h.dn, ht, h.get⟩
def ReadsRel (w : World) (n len sb lb : Nat) (i : Value) (wr : World) : Prop :=
  ∃ (k : Nat) (ls : List Int) (F : Nat → Prop) (d : Dk), k ≤ 60 ∧ k ≤ len ∧ i = .int .i64 k ∧ RdAt w.heap.size w wr n sb lb (9 * k) ls F d
def ReadsMid (w : World) (n k sb lb : Nat) (wr : World) : Prop := ∃ (ls : List Int) (F : Nat → Prop) (d : Dk), RdAt w.heap.size w wr n sb lb (9 * k + 1) ls F d
def ReadsIn (w : World) (n k sb lb : Nat) (ls : List Int) (i : Value) (wr : World) : Prop :=
  ∃ (q : Nat) (F : Nat → Prop) (d : Dk), q ≤ n ∧ i = .int .i64 q ∧ RdAt w.heap.size w wr n sb lb (9 * k + 1 + q) ls F d
theorem RdAt.read {B : Nat} {w0 w w1 : World} {n sb lb : Nat} {top : Int} {ls : List Int} {F : Nat → Prop} {d : Dk} (h : RdAt B w0 w n sb lb top ls F d) (hd : DiskAt w1 F sb d.hit) (hf : Fr (fun b => b = sb) w w1) :
    RdAt B w0 w1 n sb lb (top + 1) ls (fun b => F b ∧ b < w1.heap.size) d.hit := by
  obtain ⟨a, b, c, e⟩ := h.hit
  exact ⟨h.at_.step hd hf (fun b hb e => by subst e; exact h.at_.sb) (fun b h => .inl h), fun hF => h.nF hF.1, h.lo, h.blk.fr hf h.ne, h.len, e, b, c, by rw [a]; have := h.acc; omega, fun q hq => by rw [Dk.hit_get]; exact h.get q hq⟩
theorem RdAt.sync {B : Nat} {w0 w w1 : World} {n sb lb : Nat} {top : Int} {ls : List Int} {F : Nat → Prop} {d : Dk} (h : RdAt B w0 w n sb lb top ls F d) (hd : DiskAt w1 F sb d.hit.sync) (hf : Fr F w w1) :
    RdAt B w0 w1 n sb lb (top + 1) ls (fun b => F b ∧ b < w1.heap.size) d.hit.sync := by
  obtain ⟨a, b, c, e⟩ := h.hit
  refine ⟨h.at_.step hd hf (fun b hb e => e) (fun b h => .inl h), fun hF => h.nF hF.1, h.lo, h.blk.fr hf h.nF, h.len, by simp [Dk.sync, e], b, c, by show d.hit.acc ≤ _; rw [a]; have := h.acc; omega, fun q hq => ?_⟩
  have : d.hit.sync.get q = d.hit.get q := by
    simp only [Dk.sync, Dk.get, Option.getD_none, List.getD]
    simp only [List.getElem?_map, e, List.getElem?_range hq, Option.map_some, Option.getD_some]
    rfl
  rw [this, Dk.hit_get]; exact h.get q hq
theorem RdAt.write {B : Nat} {w0 w w1 : World} {n sb lb p : Nat} {c : Int} {top : Int} {ls : List Int} {F : Nat → Prop} {d : Dk} (h : RdAt B w0 w n sb lb top ls F d) (hp : p < n) (hd : DiskAt w1 (fun b => F b ∨ w.heap.size ≤ b) sb (d.hit.put p (rep24 c))) (hf : Fr F w w1) :
    RdAt B w0 (w1.setCell ⟨lb, p, none⟩ (.int .u8 c)) n sb lb (top + 1) (ls.set p c) (fun b => (F b ∨ w.heap.size ≤ b) ∧ b < w1.heap.size) (d.hit.put p (rep24 c)) := by
  obtain ⟨a, b, c', e⟩ := h.hit
  have hs := h.at_.step hd hf (fun b hb e => e) (fun b h => h)
  have hn : ¬ ((F lb ∨ w.heap.size ≤ lb) ∧ lb < w1.heap.size) := fun hF => by
    rcases hF.1 with h' | h'
    · exact h.nF h'
    · have := h.blk.lt; omega
  have hb := (h.blk.fr hf h.nF).set p (.int .u8 c)
  rw [row8_set] at hb
  refine ⟨hs.same ((Fr.refl (fun b => b = lb) _).setCell _ _ (.inl rfl)) (fun b _ e hF => by subst e; exact hn hF) (hs.bel.setCell h.lo _), hn, h.lo, hb, by simp [h.len], e, b, c', by show d.hit.acc ≤ _; rw [a]; have := h.acc; omega, fun q hq => ?_⟩
  by_cases hqp : q = p
  · subst hqp
    have : (ls.set q c).getD q 0 = c := by simp [List.getD, h.len, hq]
    rw [this]; simp [Dk.put, Dk.get, upd]
  · have h1 : (ls.set p c).getD q 0 = ls.getD q 0 := by simp [List.getD, List.getElem?_set_ne (Ne.symm hqp)]
    have h2 : (d.hit.put p (rep24 c)).get q = d.hit.get q := by simp [Dk.put, Dk.get, upd, hqp]
    rw [h1, h2, Dk.hit_get]; exact h.get q hq
set_option maxHeartbeats 2000000 in
theorem reads_walk (pages : Int) (A : Option Addr) (len cap : Nat) (l : List OpD) (w : World) (hin : OpsIn w A len l) (hlen : len ≤ maxLen) : Calls Try.prog 5 #[.int .i64 pages, .slice A len cap] w (ToldTo w) := by
  obtain ⟨n0, hn0, hn8⟩ := uwrap_mod pages 8 (by omega) (by omega)
  have hk : wrap64 ((IntKind.u64.wrap pages).tmod 8) = (n0 : Int) := hn0
  have HIN := Lib.hid hin
  clear hn0 hin
  go_enter Try.func5, Try.ntmps5
  go_wp2_with fail
  clear hk
  rw [show (1 : Int) + (n0 : Int) = ((n0 + 1 : Nat) : Int) from by omega]
  have h1n : 1 ≤ n0 + 1 := by omega
  have hn8' : n0 + 1 ≤ 8 := by omega
  clear hn8
  generalize n0 + 1 = n at h1n hn8' ⊢
  refine (new_any n w (by omega) (by omega)).mono ?_
  rintro e w1 ⟨sb, rfl, hd, hsb, hb1⟩
  have h1 : DAt w.heap.size w w1 (fun b => w.heap.size ≤ b ∧ b < w1.heap.size) sb (fresh n) := ⟨hd.bound, fun b hb => hb.1, fun b hb => hb.2, hb1, Nat.le_refl _⟩
  have H1 := Lib.hid h1
  have HS1 := Lib.hid hb1.size
  clear h1 hd hsb hb1
  have hmk := made8 n w1 (by omega)
  go_wp2_with fail
  obtain ⟨lb, hlb⟩ : ∃ lb, lb = w1.heap.size := ⟨_, rfl⟩
  have hst : ReadsRel w n len sb w1.heap.size (.int .i64 0) (w1.alloc (.cells (row8 (List.replicate n 0)) 5)) := by
    refine ⟨0, List.replicate n 0, _, fresh n, by omega, by omega, rfl, H1.out.same ((Fr.refl (fun _ => False) _).alloc _) (fun _ _ h => h.elim) (H1.out.bel.alloc HS1.out _), fun h => Nat.lt_irrefl _ h.2, HS1.out, Blk.new w1 _ _, by simp, by simp [fresh], rfl, rfl, Int.le_refl _, fun q hq => ?_⟩
    simp [fresh, Dk.get, List.getD, hq, zl, rep24]
  have HST := Lib.hid hst
  clear hst hmk
  rw [← hlb]
  have HLB := Lib.hid hlb
  clear hlb
  go_loopw [8] (fun i wr => ReadsRel w n len sb lb i wr) (fun i _ => 60 - (intOf i).toNat)
  case atStart => rw [HLB.out]; exact HST.out
  case round =>
    obtain ⟨k, ls, F, d, hk60, hkl, rfl, hd⟩ := hrel
    have HD := Lib.hid hd
    have HA := Lib.hid hd.acc
    clear hd
    by_cases hlt1 : k < len
    · by_cases hlt2 : k < 60
      · obtain ⟨o, ho⟩ : ∃ o, l[k]? = some o := ⟨l[k]'(by rw [HIN.out.1]; exact hlt1), by simp⟩
        obtain ⟨bb, bo, B, m, cp, rfl, hbb, ck, cp', cn, cc, _, _, _, _, _, _, _, hc0, hc1⟩ := HIN.out.2 k o ho
        have ck := (HD.out.at_.bel.cell (p := ⟨bb, bo + k * 5, none⟩) hbb).trans ck
        have cp' := (HD.out.at_.bel.cell (p := ⟨bb, bo + k * 5 + 1, none⟩) hbb).trans cp'
        have cc := (HD.out.at_.bel.cell (p := ⟨bb, bo + k * 5 + 3, none⟩) hbb).trans cc
        have HCC := Lib.hid (show ∀ (w' : World), Below w.heap.size w w' → w'.cell? ⟨bb, bo + k * 5 + 3, none⟩ = some (.int .u8 o.c) from fun w' h => (h.cell (p := ⟨bb, bo + k * 5 + 3, none⟩) hbb).trans (by assumption))
        obtain ⟨p, hp, hpn⟩ := uwrap_mod o.p n (by omega) (by omega)
        have HM := Lib.hid (show m ≤ m from Nat.le_refl _)
        clear ho hbb cn
        obtain ⟨bt, hbt⟩ : ∃ b, (bits BinOp.and IntKind.i64 o.kind 3 == 3) = b := ⟨_, rfl⟩
        go_upto_if 50 with fail
        go_cut [9] from 24 to 109 (fun _ wx => ReadsMid w n k sb lb wx)
        case first =>
          cases bt with
          | true =>
            go_wp2_with fail
            refine (sync_ok sb d _ wr HD.out.at_.at_ (by have := HA.out; omega) HD.out.code).mono ?_
            rintro e w2 ⟨rfl, hd2, hf2⟩
            have H2 := Lib.hid (HD.out.sync hd2 hf2)
            clear hd2 hf2
            go_wp2
            go_meet
            exact ⟨ls, _, _, H2.out⟩
          | false =>
            go_wp2_with fail
            refine (bytes3_any o.c wr).mono ?_
            rintro e w2 ⟨rfl, hb, hbel⟩
            have hne : wr.heap.size ≠ sb := fun e => by have := HD.out.at_.at_.own.2; omega
            have HB := Lib.hid hb
            have H2 := Lib.hid (HD.out.below hbel)
            clear hb hbel
            go_wp2_with fail
            refine (write_ok sb d p ⟨wr.heap.size, 0, none⟩ _ (rep24 o.c) _ w2 H2.out.at_.at_ (by rw [H2.out.pg]; exact hpn) (by have := HA.out; omega) H2.out.code rfl (blk_news HB.out (part24_full _)) hne).mono ?_
            rintro e w3 ⟨rfl, hd3, hf3⟩
            have H3 := Lib.hid (H2.out.write hpn hd3 hf3)
            have cc3 := HCC.out w3 (H2.out.at_.step hd3 hf3 (fun b hb e => e) (fun b h => h)).bel
            have hb3 := H2.out.blk.fr hf3 H2.out.nF
            have f3 := hb3.free p
            obtain ⟨v0, hv0⟩ : ∃ v, w3.cell? ⟨lb, p, none⟩ = some v := ⟨_, hb3.cell p _ (row8_get _ _ (by rw [H2.out.len]; exact hpn))⟩
            clear hd3 hf3 hb3 cc ck cp'
            go_wp2_with fail
            go_meet
            exact ⟨_, _, _, H3.out⟩
        case rest =>
          obtain ⟨ls1, F1, d1, hd1⟩ := hcut
          have H1 := Lib.hid hd1
          clear hd1 hbt
          go_wp2_with fail
          obtain ⟨wo, rfl⟩ : ∃ wo : World, wo = wr := ⟨_, rfl⟩
          go_loopw [10] (fun i wr => ReadsIn w n k sb lb ls1 i wr) (fun i _ => n - (intOf i).toNat)
          case atStart => exact ⟨0, F1, d1, by omega, rfl, by simpa using H1.out⟩
          case round =>
            obtain ⟨q, F2, d2, hq, rfl, hd2⟩ := hrel
            have H2 := Lib.hid hd2
            have HA2 := Lib.hid hd2.acc
            clear hd2
            by_cases hqn : q < n
            · go_wp2_with fail
              refine (read_ok sb d2 q _ _ H2.out.at_.at_ (by rw [H2.out.pg]; exact hqn) (by have := HA2.out; omega) H2.out.code).mono ?_
              rintro e w4 ⟨v4, rfl, ho4, hd4, hf4⟩
              rw [H2.out.get q hqn] at ho4
              obtain ⟨g4, c4, rfl, _, _, _, hc4⟩ := own_form ho4 (by omega)
              obtain ⟨x, hx⟩ : ∃ x, ls1.getD q 0 = x := ⟨_, rfl⟩
              rw [hx] at hc4
              have k0 : w4.cell? ⟨g4, 0, none⟩ = some (.int .u8 x) := hc4 0 _ rfl
              have k23 : w4.cell? ⟨g4, 23, none⟩ = some (.int .u8 x) := hc4 23 _ rfl
              have H4 := Lib.hid (H2.out.read hd4 hf4)
              have kl : w4.cell? ⟨lb, q, none⟩ = some (.int .u8 x) := by rw [← hx]; exact H4.out.blk.cell q _ (row8_get _ _ (by rw [H4.out.len]; exact hqn))
              clear hd4 hf4 hc4 ho4 hx
              have hq1 : (q : Int) < (n : Int) := by omega
              have hq0 : (0 : Int) ≤ (q : Int) := by omega
              go_wp2_with fail
              go_quiet (fail)
              go_wp2
              exact ⟨⟨q + 1, _, _, by omega, by go_num, H4.out.drewN _⟩, by simp [intOf]; omega⟩
            · have hqe : q = n := by omega
              go_wp2
              exact ⟨⟨k + 1, ls1, F2, d2, by omega, by omega, by go_num, H2.out.more (by have := HA2.out; omega)⟩, by simp [intOf]; omega⟩
      · go_wp2_with fail
        refine (told3_any _).mono ?_
        rintro e w2 ⟨rfl, hbel⟩
        have H2 := Lib.hid (HD.out.below hbel)
        clear hbel
        go_wp2
        go_ret
        exact ⟨rfl, H2.out.at_.bel⟩
    · go_wp2_with fail
      refine (told3_any _).mono ?_
      rintro e w2 ⟨rfl, hbel⟩
      have H2 := Lib.hid (HD.out.below hbel)
      clear hbel
      go_wp2
      go_ret
      exact ⟨rfl, H2.out.at_.bel⟩
end Go.Proofs.Ytcapfahhoijblaa
