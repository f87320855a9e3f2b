/- Durable of package disk's device. Conditions: each contract's premises. -/
import Derived.Test.YtcapfahhoijblaaDiskS
set_option linter.unusedVariables false
set_option linter.unusedSimpArgs false
set_option maxRecDepth 100000
namespace Go.Proofs.Ytcapfahhoijblaa
open Go.RowKit

/-- A slice of slices of bytes, each in a row of its own, from a block on. -/
def Rows (w : World) (base : Nat) (v : Value) (ls : List (List Int)) : Prop :=
  ∃ vs, w.ownsRow base 25 1 v ls.length vs ∧ ∀ (i : Nat) (l : List Int), ls[i]? = some l → ∃ u, vs[i]? = some u ∧ w.ownsRow base 5 1 u l.length (nums l)
theorem own_below {w w' : World} {base : Nat} {e : TypeId} {size n : Nat} {v : Value} {xs : List Value} (h : w.ownsRow base e size v n xs) (hb : Below w.heap.size w w') : w'.ownsRow base e size v n xs := own_fr h (Fr.of_below hb (fun _ => False)) (fun _ _ h => h)
theorem own_mono {w : World} {base base' : Nat} {e : TypeId} {size n : Nat} {v : Value} {xs : List Value} (h : w.ownsRow base e size v n xs) (hb : base' ≤ base) : w.ownsRow base' e size v n xs := by
  refine ⟨h.1, ?_⟩
  rcases h.2 with hnil | ⟨g, cap, cur, hv, hg, r⟩
  · exact .inl hnil
  · exact .inr ⟨g, cap, cur, hv, Nat.le_trans hb hg, r⟩
/-- Two owned rows of unlike element types lie in unlike blocks. -/
theorem own_types {w : World} {b b' : Nat} {e e' : TypeId} {s s' n n' : Nat} {v v' : Value} {xs xs' : List Value} (h : w.ownsRow b e s v n xs) (h' : w.ownsRow b' e' s' v' n' xs') (hne : e ≠ e') : ∀ k, v.ownBlock = some k → v'.ownBlock ≠ some k := by
  intro k hk hk'
  rcases h.2 with ⟨rfl, _⟩ | ⟨g, cap, cur, rfl, _, hh, _⟩
  · simp [Value.ownBlock] at hk
  rcases h'.2 with ⟨rfl, _⟩ | ⟨g', cap', cur', rfl, _, hh', _⟩
  · simp [Value.ownBlock] at hk'
  have e1 : g = k := by simpa [Value.ownBlock] using hk
  have e2 : g' = k := by simpa [Value.ownBlock] using hk'
  subst e1; subst e2
  exact Blk.type_ne (cs := cur) (cs' := cur') hh hh' hne rfl
theorem Rows.nil (w : World) (base : Nat) : Rows w base (.slice none 0 0) [] := ⟨[], World.ownsRow_nil _ _ _ _, by simp⟩
/-- One more row behind an append. -/
theorem Rows.snoc {w w1 : World} {base : Nat} {v u v1 : Value} {ls : List (List Int)} {l : List Int} {vs : List Value} (hv : w.ownsRow base 25 1 v ls.length vs) (hrows : ∀ (i : Nat) (l : List Int), ls[i]? = some l → ∃ u, vs[i]? = some u ∧ w.ownsRow base 5 1 u l.length (nums l))
    (hu : w.ownsRow base 5 1 u l.length (nums l)) (ho : w1.ownsRow base 25 1 v1 (ls.length + 1) (vs ++ [u])) (hg : w.grownBy w1 v.ownBlock) : Rows w1 base v1 (ls ++ [l]) := by
  have hk : ∀ (u : Value) (l : List Int), w.ownsRow base 5 1 u l.length (nums l) → w1.ownsRow base 5 1 u l.length (nums l) := fun u l h =>
    own_fr h ((Fr.refl (fun b => v.ownBlock = some b) w).grown hg (fun k hk => .inl hk)) (own_types h hv (by decide))
  refine ⟨vs ++ [u], by simpa using ho, fun i l' hi => ?_⟩
  have hl : vs.length = ls.length := by have := hv.1; omega
  rcases Nat.lt_or_ge i ls.length with hlt | hge
  · rw [List.getElem?_append_left hlt] at hi
    obtain ⟨u', h1, h2⟩ := hrows i l' hi
    exact ⟨u', by rw [List.getElem?_append_left (by omega)]; exact h1, hk _ _ h2⟩
  · have hie : i = ls.length := by
      have := (List.getElem?_eq_some_iff.1 hi).1
      simp at this; omega
    subst hie
    simp at hi; subst hi
    exact ⟨u, by rw [← hl]; simp, hk _ _ hu⟩
def DurTo (sb : Nat) (d : Dk) (F : Nat → Prop) (w : World) (e : Ending) (w' : World) : Prop := ∃ v, e = .returned v ∧ Rows w' w.heap.size v d.pages ∧ DiskAt w' F sb d ∧ Below w.heap.size w w'
def DurRel (d : Dk) (w : World) (lv i : Value) (wr : World) : Prop := ∃ k : Nat, k ≤ d.pages.length ∧ i = .int .i64 k ∧ Rows wr w.heap.size lv (d.pages.take k) ∧ Below w.heap.size w wr
set_option maxHeartbeats 1000000 in
theorem durable_any (sb : Nat) (d : Dk) (F : Nat → Prop) (w : World) (h : DiskAt w F sb d) : Calls Try.prog 32 #[.pointer (some ⟨sb, 0, none⟩)] w (DurTo sb d F w) := by
  obtain ⟨pb, cap, mb, xs, es, clock, hd⟩ := h
  have c0 : w.cell? ⟨sb, 0, none⟩ = some (.slice (some ⟨pb, 0, none⟩) d.pages.length cap) := hd.blk.cell 0 _ rfl
  have HD := Lib.hid hd
  have hfew := hd.few
  have hin : ∀ l, d.pages.getD l [] = d.pages.getD l [] := fun _ => rfl
  clear hd hin
  go_enter Try.func32, Try.ntmps32
  go_wp2
  go_loopw [3, 13] (fun lv i wr => DurRel d w lv i wr) (fun _ i _ => d.pages.length - (intOf i).toNat)
  case atStart => exact ⟨0, Nat.zero_le _, rfl, Rows.nil _ _, Below.refl _ _⟩
  case round =>
    obtain ⟨k, hk, rfl, hrows, hbel⟩ := hrel
    by_cases hlt : k < d.pages.length
    · obtain ⟨vs, hown, hr⟩ := hrows
      have hsz := hbel.size
      obtain ⟨g, cp, hpc, hcl⟩ := page_at ((HD.out.fr (Fr.of_below hbel (fun _ => False)) (fun _ _ h => h.elim))) hlt
      have hlen : (d.pages.take k).length = k := by simp; omega
      rw [hlen] at hown
      have hl24 : (d.pages.getD k []).length = 24 := by
        obtain ⟨v, _, hi⟩ := HD.out.img k (d.pages.getD k []) (by simp [List.getD, hlt])
        exact hi.2.1
      have HL := Lib.hid hl24
      have HN := Lib.hid hlen
      have HR := Lib.hid hr
      have hk1 : (k : Int) < (d.pages.length : Int) := by omega
      have hk0 : (0 : Int) ≤ (k : Int) := by omega
      clear hl24 hlen hr
      go_wp2_with (first | (go_at_call 62; refine hcl.out.mono ?_; rintro e w2 ⟨u0, rfl, ho, hb2⟩; obtain ⟨g2, cp2, rfl, _⟩ := own_form ho (by omega)) | (at_builtin; go_must (refine wpList_ap1 w.heap.size rfl _ _ 38 25 (.slice none 0 0) 1 24 rfl Try.underlying38 Try.info25 rfl (by omega) u3 k vs rfl (own_below hown hb2) [.slice (some ⟨g2, 0, none⟩) 24 cp2] w2.heap.size rfl rfl rfl (by simp [Value.oneCell']) (by omega) (by omega) (by have := hb2.size; omega) ?_); intro g3 cap3 w3 ho3 hg3 hat3))
      have hsn := Rows.snoc (w := w2) (base := w.heap.size) (v := u3) (u := .slice (some ⟨g2, 0, none⟩) 24 cp2) (ls := d.pages.take k) (l := d.pages.getD k []) (vs := vs) (by rw [HN.out]; exact own_below hown hb2)
        (fun i l hi => by obtain ⟨u, h1, h2⟩ := HR.out i l hi; exact ⟨u, h1, own_below h2 hb2⟩) (by rw [HL.out]; exact own_mono ho hsz) (by rw [HN.out]; exact ho3) hg3
      have hbel3 : Below w.heap.size w w3 := (hbel.trans (hb2.mono hsz)).grown hg3 (Nat.le_trans hsz hb2.size) (fun j hj => own_ge hown j hj)
      rw [show d.pages.take k ++ [d.pages.getD k []] = d.pages.take (k + 1) from by rw [List.take_succ_eq_append_getElem hlt]; simp [List.getD, hlt]] at hsn
      have HS := Lib.hid hsn
      have HB3 := Lib.hid hbel3
      clear hsn hbel3 ho3 hg3 hat3 hown
      go_wp2
      exact ⟨⟨k + 1, by omega, by go_num, HS.out, HB3.out⟩, by simp [intOf]; omega⟩
    · have hkn : d.pages.length ≤ k := by omega
      have hkn2 : ¬ (k : Int) < (d.pages.length : Int) := by omega
      go_wp2
      go_ret
      refine ⟨u3, rfl, ?_, ⟨pb, cap, mb, xs, es, clock, HD.out.fr (Fr.of_below hbel (fun _ => False)) (fun _ _ h => h.elim)⟩, hbel⟩
      rwa [List.take_of_length_le hkn] at hrows
end Go.Proofs.Ytcapfahhoijblaa
