/- Waits of package disk's device. Conditions: each contract's premises. -/
import Derived.Test.YtcapfahhoijblaaConcat
import Derived.Test.YtcapfahhoijblaaLays
set_option linter.unusedVariables false
set_option linter.unusedSimpArgs false
set_option maxRecDepth 100000
namespace Go.Proofs.Ytcapfahhoijblaa
open Go.RowKit Go.Maps Go.Sort Go.Shelf
theorem own_shape {w : World} {base : Nat} {e : TypeId} {size n : Nat} {v : Value} {xs : List Value} (h : w.ownsRow base e size v n xs) : ∃ A c, v = .slice A n c ∧ ∀ j u, xs[j]? = some u → ∃ g, A = some ⟨g, 0, none⟩ ∧ w.cell? ⟨g, j, none⟩ = some u := by
  rcases h.2 with ⟨rfl, rfl⟩ | ⟨g, cap, cur, rfl, hb, hh, hc, hm, hs, ht⟩
  · refine ⟨none, 0, rfl, fun j u hj => ?_⟩
    have h1 := h.1
    rw [Nat.zero_mul] at h1
    rw [List.eq_nil_of_length_eq_zero h1] at hj; cases hj
  · refine ⟨_, cap, rfl, fun j u hj => ⟨g, rfl, ?_⟩⟩
    rw [← ht, List.getElem?_take] at hj
    split at hj
    · simp only [World.cell?, hh]; simpa using hj
    · cases hj
def Dk.waiting (d : Dk) : List Nat := (List.range d.pages.length).filter fun p => (d.waits p).isSome
def Dk.waitsZ (d : Dk) : List Int := d.waiting.map fun (p : Nat) => (p : Int)
def WaitsTo (sb : Nat) (d : Dk) (F : Nat → Prop) (w : World) (e : Ending) (w' : World) : Prop :=
  ∃ v, e = .returned v ∧ w'.ownsRow w.heap.size 3 1 v d.waiting.length (d.waitsZ.map (Value.int .i64)) ∧ DiskAt w' F sb d ∧ Below w.heap.size w w'
theorem mem_waiting {d : Dk} {p : Nat} : p ∈ d.waiting ↔ p < d.pages.length ∧ (d.waits p).isSome = true := by simp [Dk.waiting]
theorem waiting_sorted (d : Dk) : d.waiting.Pairwise (· < ·) := List.pairwise_lt_range.filter _
theorem waitsZ_sorted (d : Dk) : d.waitsZ.Pairwise (· < ·) := List.pairwise_map.2 ((waiting_sorted d).imp (fun h => by omega))
theorem waitsZ_self (d : Dk) : d.waitsZ.mergeSort leI = d.waitsZ := by
  refine List.mergeSort_of_pairwise ?_
  exact (waitsZ_sorted d).imp (fun h => by simp only [leI, decide_eq_true_eq]; omega)
def anyElem : Value → Option (DataW Unit × List MemPlace) := fun _ => some (.nil, [])
def keyZ (e : MapEntry) : Int := intOf e.key
theorem map_owns {w : World} {F : Nat → Prop} {sb : Nat} {d : Dk} {pb cap mb : Nat} {xs : List Value} {es : Array MapEntry} {clock : Nat} (h : DiskIs w F sb d pb cap mb xs es clock) :
    ∃ D0 : DataW Unit, w.ownsMap Try.prog 3 anyElem mb es.size D0 ∧ Maps.size D0 = es.size ∧ es.size ≤ 48 ∧ d.waitsZ.Perm (intKeys D0) := by
  have hkey : ∀ x ∈ es.toList, ∃ p : Nat, p < d.pages.length ∧ x.key = .int .i64 (p : Int) ∧ (d.waits p).isSome = true := fun x hx => by
    obtain ⟨p, l, h1, h2, _, h4⟩ := h.map.ent x hx
    exact ⟨p, h1, h2, by rw [h4]; rfl⟩
  have hrg : ∀ x ∈ es.toList, WideElems.rd (H := Unit) Try.prog 3 anyElem x = some (.int .i64 (keyZ x), .nil) := fun x hx => by
    obtain ⟨p, hp, hk, _⟩ := hkey x hx
    have hwf : (Lit.int .i64 (p : Int)).wf = true := WalkArith.wf_i64 (by have := h.few; omega)
    simp only [WideElems.rd, hk, keyOf_int_mk Try.underlying3 hwf, keyZ, intOf, anyElem, Option.map_some, Option.bind_some]
  have hfew := h.few
  have hperm : d.waitsZ.Perm (es.toList.map keyZ) := by
    refine (List.perm_ext_iff_of_nodup ((waitsZ_sorted d).imp (fun h => by omega)) ?_).2 fun z => ?_
    · refine List.pairwise_map.2 (h.map.keys.imp_of_mem fun {a b} ha hb hne he => hne ?_)
      obtain ⟨p, _, hp, _⟩ := hkey a ha
      obtain ⟨q, _, hq, _⟩ := hkey b hb
      simp only [keyZ, hp, hq, intOf] at he
      rw [hp, hq, he]
    · simp only [Dk.waitsZ, List.mem_map, mem_waiting]
      constructor
      · rintro ⟨p, ⟨hp, hs⟩, rfl⟩
        obtain ⟨l, hl⟩ := Option.isSome_iff_exists.1 hs
        obtain ⟨x, hx, hk⟩ := h.map.has p l hl
        exact ⟨x, hx, by simp [keyZ, hk, intOf]⟩
      · rintro ⟨x, hx, rfl⟩
        obtain ⟨p, hp, hk, hs⟩ := hkey x hx
        exact ⟨p, ⟨hp, hs⟩, by simp [keyZ, hk, intOf]⟩
  have hsz : es.size ≤ 48 := by
    have h1 := hperm.length_eq
    have h2 : d.waitsZ.length ≤ d.pages.length := by simp only [Dk.waitsZ, Dk.waiting, List.length_map]; exact Nat.le_trans (List.length_filter_le _ _) (by simp)
    simp only [List.length_map, Array.length_toList] at h1
    omega
  refine ⟨.map ((es.toList.map (WideElems.rg Try.prog 3 anyElem)).foldr DataW.insert []), ⟨es, clock, h.map.heap, { size := by unfold maxLen; omega, stamped := ⟨h.map.old, List.pairwise_map.2 (h.map.born.imp (fun h => Nat.ne_of_lt h)), List.pairwise_map.2 h.map.keys⟩, reads := fun x hx => ⟨_, hrg x hx⟩ }, Nat.le_refl _, rfl⟩, ?_, hsz, ?_⟩
  · exact length_read es
  · refine hperm.trans ?_
    have h1 := ((WideShapes.sorted_perm (es.toList.map (WideElems.rg (H := Unit) Try.prog 3 anyElem))).map (fun p : Lit × DataW Unit => Go.intOf p.1)).symm
    refine List.Perm.trans (List.Perm.of_eq ?_) h1
    rw [List.map_map]
    refine List.map_congr_left fun x hx => ?_
    simp only [Function.comp, WideElems.rg, hrg x hx, Option.getD_some]; rfl
theorem Try.sortsA (m : Nat) : AnyZI.SortsIn Try.prog Try.sortedA_ren Fence.wide m :=
  ⟨fun blk off cap ss W hH hblk hsz => callsIn_wide.2 (AnyM.slices_Sort_int Try.sortA blk off cap ss W hH hblk hsz),
   fun p cap W => callsIn_wide.2 (AnyM.slices_Sort_int_none Try.sortA p cap W)⟩
set_option maxHeartbeats 1000000 in
theorem waits_any (sb : Nat) (d : Dk) (F : Nat → Prop) (w : World) (h : DiskAt w F sb d) : Calls Try.prog 34 #[.pointer (some ⟨sb, 0, none⟩)] w (WaitsTo sb d F w) := by
  obtain ⟨pb, cap, mb, xs, es, clock, h⟩ := h
  obtain ⟨D0, hown, hsz, hfew, hperm⟩ := map_owns h
  have c1 : w.cell? ⟨sb, 1, none⟩ = some (.map (some mb)) := h.blk.cell 1 _ rfl
  refine (callsIn_wide (n := 6)).1 ?_
  have hbl := hown.lt
  have hseq : SeqGives Fence.wide 2 Try.prog 98 #[.pointer (some ⟨w.heap.size, 0, none⟩)] encZ (fun ss => ss.Perm (intKeys D0)) (Maps.size D0) (w.alloc (.cells #[.map (some mb)] 99)) :=
    AnyZI.keys_gives (ρ := Try.keysA_ren) { Try.keysA with } Fence.wide _ trivial rfl (by omega) w.heap.size mb es.size D0 _ (by simp) (by simp) (by
      obtain ⟨es, clock, hb, Ft, hs, hD⟩ := hown
      exact ⟨es, clock, (Below.heap_alloc _ _ mb hbl).trans hb, Ft, hs, hD⟩)
  have cK : ∀ mb W, CallsIn Fence.wide 5 Try.prog 66 #[.map mb] W fun e w' => e = .returned (.func (.func 98) #[] #[.pointer (some ⟨W.heap.size, 0, none⟩)]) ∧ w' = W.alloc (.cells #[.map mb] 99) := fun mb W => AnyZI.keys_in Try.keysA Fence.wide 5 trivial rfl mb W
  have cS := AnyZI.sorted_in Try.sortedA Fence.wide 5 trivial trivial trivial trivial rfl (by omega) (Try.sortsA _) (enters_of Try.func97 (by kernel_rfl) rfl) 98 #[.pointer (some ⟨w.heap.size, 0, none⟩)] trivial (enters_of Try.func98 (by kernel_rfl) rfl) _ _ (by rw [hsz]; unfold maxLen; omega) (by rw [hsz]; omega) _ hseq
  change CallsIn _ _ Try.prog 65 _ _ _ at cS
  have hfK : Fence.wide.fn 66 := trivial
  have hfS : Fence.wide.fn 65 := trivial
  have H := Lib.hid h
  have HP := Lib.hid hperm
  clear h hperm hsz hfew hseq hown
  refine callsIn_of_wp Try.func34 rfl trivial ?_ rfl
  simp only [Try.ntmps34, List.size_toArray, List.length_cons, List.length_nil, Nat.reduceAdd, Nat.reduceSub, Array.replicate_succ, Array.replicate_zero, List.push_toArray, List.append_toArray, List.nil_append, List.cons_append]
  gi_wp2_with (first
    | (gi_at_call 66; refine (cK _ _).mono ?_; rintro e w' ⟨rfl, rfl⟩)
    | (gi_at_call 65; refine cS.mono ?_; rintro e w' ⟨v, ss, rfl, hS, hrow, hnil, hb⟩))
  go_ret
  have hbel : Below w.heap.size w w' := ((Below.refl _ w).alloc (Nat.le_refl _) _).trans (hb.mono (by simp))
  refine ⟨v, rfl, ?_, ⟨pb, cap, mb, xs, es, clock, H.out.fr (Fr.of_below hbel (fun _ => False)) (fun _ _ h => h.elim)⟩, hbel⟩
  have hp2 : ss.Perm d.waitsZ := hS.trans HP.out.symm
  have hms : ss.mergeSort (fun x y => decide (x ≤ y)) = d.waitsZ := (mergeSort_of_perm_i hp2).trans (waitsZ_self d)
  rw [hms, hp2.length_eq] at hrow
  have := ownsRow_base_a hrow (base' := w.heap.size) (by simp)
  rw [show d.waitsZ.length = d.waiting.length from by simp [Dk.waitsZ]] at this
  exact this
end Go.Proofs.Ytcapfahhoijblaa
