/- A region whose last operations store into cells that its loads read: the loads are taken first, under a property of the world that needs to hold only as long as none of those stores has come up. Conditions: each lemma's premises. -/
import Derived.OrdersHeld
import Derived.RegionTactic
import Derived.Deep.RegionHeld
set_option linter.unusedVariables false
namespace Go.Proofs.Ytcapfahhoijblaa
section
variable {P : Program} {ops : Array Oper} {Q : Exit → Act → World → Prop} {md : Region.Mode} {S : World → Prop} {late : List Nat}
/-- None of the late operations has come up. -/
def lateFree (late : List Nat) (listed : Array Bool) : Bool := late.all fun j => !listed.getD j false
theorem lateFree_set {listed : Array Bool} {i : Nat} (hi : i ∉ late) : lateFree late (listed.setIfInBounds i true) = lateFree late listed := by
  unfold lateFree
  rw [Bool.eq_iff_iff, List.all_eq_true, List.all_eq_true]
  refine forall_congr' fun j => forall_congr' fun hj => ?_
  have hne : i ≠ j := fun e => by subst e; exact hi hj
  rw [getD_set_ne false hne]
theorem lateFree_less {listed : Array Bool} {i : Nat} (h : lateFree late (listed.setIfInBounds i true) = true) : lateFree late listed = true := by
  unfold lateFree at *
  rw [List.all_eq_true] at *
  intro j hj
  have h1 := h j hj
  cases hb : listed.getD j false with
  | false => rfl
  | true => rw [getD_set_true hb] at h1; cases h1
/-- Whatever order is picked; S holds behind each operation till a late one comes up. -/
def AnyLate (P : Program) (md : Region.Mode) (ops : Array Oper) (Q : Exit → Act → World → Prop) (S : World → Prop) (late : List Nat) : Nat → Array Bool → Act → World → Prop
  | 0, listed, a, w => Region.ready md ops listed = [] ∧ Q .normal a w
  | fuel + 1, listed, a, w =>
    (Region.ready md ops listed = [] → Q .normal a w) ∧
    ∀ i ∈ Region.ready md ops listed, wpOp P ops Q i (fun a' w' => (lateFree late (listed.setIfInBounds i true) = true → S w') ∧ AnyLate P md ops Q S late fuel (listed.setIfInBounds i true) a' w') a w
theorem AnyLate.any : ∀ (fuel : Nat) (listed : Array Bool) (a : Act) (w : World), AnyLate P md ops Q S late fuel listed a w → wpAny P md ops Q fuel listed a w
  | 0, _, _, _, h => h
  | fuel + 1, _, _, _, h => ⟨h.1, fun i hi => wpOp_mono (fun a' w' h' => AnyLate.any fuel _ a' w' h'.2) (h.2 i hi)⟩
theorem AnyLate.first {T : World → Prop} {C : Array Bool → Prop} {i : Nat} {oi : Oper} {v : Value} (hi : ops[i]? = some oi) (hsel : Region.noSelect ops = true) (hQ : ∀ c a w, Q (.panic c) (a.put oi.dst v) w → Q (.panic c) a w) (hil : i ∉ late)
    (hCT : ∀ listed w, C listed → (lateFree late listed = true → S w) → T w) (hC : ∀ j o listed, C listed → ops[j]? = some o → (∀ e ∈ o.after, Region.binds md e = true → e.on ≠ i) → C (listed.setIfInBounds j true)) :
    ∀ (fuel : Nat) (listed : Array Bool) (a : Act) (w : World), C listed →
      (∀ j oj, ops[j]? = some oj → j ≠ i → listed.getD j true = false → (∀ e ∈ oj.after, Region.binds md e = true → e.on ≠ i) → oi.apart ops oj = true) →
      i ∈ Region.ready md ops listed → YieldsIf P ops T oi v a → (lateFree late listed = true → S w) →
      AnyLate P md ops Q S late fuel (listed.setIfInBounds i true) (a.put oi.dst v) w → AnyLate P md ops Q S late (fuel + 1) listed a w := by
  intro fuel
  induction fuel with
  | zero =>
    intro listed a w hc _ hr hy hS H
    refine ⟨fun h => (by rw [h] at hr; cases hr), fun j hj => ?_⟩
    by_cases hji : j = i
    · subst hji; exact hy.wpOp hi (hCT listed w hc hS) ⟨fun h => hS (lateFree_less h), H⟩
    · have h1 := ready_mono hj hji
      rw [H.1] at h1; cases h1
  | succ fuel ih =>
    intro listed a w hc hfree hr hy hS H
    refine ⟨fun h => (by rw [h] at hr; cases hr), fun j hj => ?_⟩
    by_cases hji : j = i
    · subst hji; exact hy.wpOp hi (hCT listed w hc hS) ⟨fun h => hS (lateFree_less h), H⟩
    · obtain ⟨hjun, oj, hoj, hall⟩ := mem_ready.1 hj
      have hun := (mem_ready.1 hr).1
      have hnot : ∀ e ∈ oj.after, Region.binds md e = true → e.on ≠ i := fun e he hb heq => by
        have h1 := hall e he hb
        rw [heq] at h1
        rcases Nat.lt_or_ge i listed.size with h' | h'
        · simp [h'] at hun h1; rw [hun] at h1; cases h1
        · simp [Array.getElem?_eq_none h'] at h1
      have h2 := wpOp_putIf hoj (hfree j oj hoj hji hjun hnot) (fun cs b => Region.noSelect_spec hsel i oi cs b hi) (fun cs b => Region.noSelect_spec hsel j oj cs b hoj) hQ hy (H.2 j (ready_mono hj hji))
      refine wpOp_mono (fun a' w' h3 => ?_) h2
      have hS' : lateFree late (listed.setIfInBounds j true) = true → S w' := fun h => h3.2.1 (by
        rw [Array.setIfInBounds_comm _ _ (Ne.symm hji), lateFree_set hil]; exact h)
      refine ⟨hS', ih (listed.setIfInBounds j true) a' w' (hC j oj listed hc hoj hnot) ?_ (ready_mono hr (Ne.symm hji)) h3.1 hS' ?_⟩
      · intro k ok hk hki hunk hno
        refine hfree k ok hk hki ?_ hno
        by_cases hjk : j = k
        · subst hjk; exact hjun
        · rwa [getD_set_ne true hjk] at hunk
      · rw [Array.setIfInBounds_comm _ _ hji]
        exact h3.2.2
/-- Does every late operation wait for number i? -/
def waitsFor (md : Region.Mode) (ops : Array Oper) (late : List Nat) (i : Nat) : Bool :=
  late.all fun j => match ops[j]? with
    | none => false
    | some o => o.after.any fun e => Region.binds md e && e.on == i
theorem waitsFor_spec {i j : Nat} {o : Oper} (h : waitsFor md ops late i = true) (hj : j ∈ late) (ho : ops[j]? = some o) : ∃ e ∈ o.after, Region.binds md e = true ∧ e.on = i := by
  have h1 := List.all_eq_true.1 h j hj
  rw [ho] at h1
  simp only [Array.any_eq_true, Bool.and_eq_true, beq_iff_eq] at h1
  obtain ⟨k, hk, h3, h4⟩ := h1
  exact ⟨_, Array.getElem_mem hk, h3, h4⟩
/-- A load is taken first: each late operation waits for it, and none has come up. -/
theorem AnyLate.load {i : Nat} {oi : Oper} {v : Value} {fuel : Nat} {listed : Array Bool} {a : Act} {w : World} (hi : ops[i]? = some oi)
    (hs : Region.noSelect ops = true) (hf : Region.free md ops listed i = true) (hr : (Region.ready md ops listed).contains i = true) (hl : (waitsFor md ops late i && !late.contains i && lateFree late listed) = true)
    (hQ : ∀ c a w, Q (.panic c) (a.put oi.dst v) w → Q (.panic c) a w) (hy : YieldsIf P ops S oi v a) (hS : S w)
    (h : AnyLate P md ops Q S late fuel (listed.setIfInBounds i true) (a.put oi.dst v) w) : AnyLate P md ops Q S late (fuel + 1) listed a w := by
  simp only [Bool.and_eq_true, Bool.not_eq_true', List.contains_eq_mem, decide_eq_false_iff_not] at hl
  refine AnyLate.first (T := S) (C := fun listed => lateFree late listed = true) hi hs hQ hl.1.2 (fun l w hc h => h hc) (fun j o l hc ho hno => ?_) fuel listed a w hl.2 (Region.free_spec hi hf) (by simpa using hr) hy (fun _ => hS) h
  have hj : j ∉ late := fun hj => by
    obtain ⟨e, he, hb, heq⟩ := waitsFor_spec hl.1.1 hj ho
    exact hno e he hb heq
  rw [lateFree_set hj]; exact hc
/-- What yields its value in whatever world is taken first. -/
theorem AnyLate.take {i : Nat} {oi : Oper} {v : Value} {fuel : Nat} {listed : Array Bool} {a : Act} {w : World} (hi : ops[i]? = some oi)
    (hs : Region.noSelect ops = true) (hf : Region.free md ops listed i = true) (hr : (Region.ready md ops listed).contains i = true) (hl : late.contains i = false)
    (hQ : ∀ c a w, Q (.panic c) (a.put oi.dst v) w → Q (.panic c) a w) (hy : YieldsIf P ops (fun _ => True) oi v a) (hS : lateFree late listed = true → S w)
    (h : AnyLate P md ops Q S late fuel (listed.setIfInBounds i true) (a.put oi.dst v) w) : AnyLate P md ops Q S late (fuel + 1) listed a w :=
  AnyLate.first (T := fun _ => True) (C := fun _ => True) hi hs hQ (by simpa using hl) (fun _ _ _ _ => trivial) (fun _ _ _ _ _ _ => trivial) fuel listed a w trivial (Region.free_spec hi hf) (by simpa using hr) hy hS h
/-- Each of the operations rs comes up next. -/
def AllLate (P : Program) (md : Region.Mode) (ops : Array Oper) (Q : Exit → Act → World → Prop) (S : World → Prop) (late : List Nat) (fuel : Nat) (listed : Array Bool) (a : Act) (w : World) (rs : List Nat) : Prop :=
  ∀ i ∈ rs, wpOp P ops Q i (fun a' w' => (lateFree late (listed.setIfInBounds i true) = true → S w') ∧ AnyLate P md ops Q S late fuel (listed.setIfInBounds i true) a' w') a w
theorem AllLate.nil {fuel : Nat} {listed : Array Bool} {a : Act} {w : World} : AllLate P md ops Q S late fuel listed a w [] := fun _ h => by cases h
theorem AllLate.cons {fuel : Nat} {listed : Array Bool} {a : Act} {w : World} {i : Nat} {o : Oper} {rs : List Nat} (ho : ops[i]? = some o)
    (h : ∀ K' : Act → World → Prop, Shut (∀ a w, (lateFree late (listed.setIfInBounds i true) = true → S w) → AnyLate P md ops Q S late fuel (listed.setIfInBounds i true) a w → K' a w) → if Region.wanted o (yielded ops a.tmps) = true then Oper.wp P o a w K' Q else K' (a.put o.dst undef) w)
    (hs : AllLate P md ops Q S late fuel listed a w rs) : AllLate P md ops Q S late fuel listed a w (i :: rs) := fun j hj => by
  rcases List.mem_cons.1 hj with rfl | hj
  · exact wpOp_step ho (fun K' hK => h K' (fun a w hS hW => hK a w ⟨hS, hW⟩))
  · exact hs j hj
theorem AnyLate.ready {rs : List Nat} {fuel : Nat} {listed : Array Bool} {a : Act} {w : World} (hr : Region.ready md ops listed = rs) (hne : rs ≠ [])
    (h : AllLate P md ops Q S late fuel listed a w rs) : AnyLate P md ops Q S late (fuel + 1) listed a w := ⟨fun h0 => absurd (hr ▸ h0) hne, hr ▸ h⟩
theorem AnyLate.done {listed : Array Bool} {a : Act} {w : World} (hr : Region.ready md ops listed = []) (h : Q .normal a w) : ∀ fuel, AnyLate P md ops Q S late fuel listed a w
  | 0 => ⟨hr, h⟩
  | _ + 1 => ⟨fun _ => h, by rw [hr]; simp⟩
theorem AnyLate.start {id : Nat} {a : Act} {w : World} (hm : P.follows .mixedOrders = true) (S : World → Prop) (late : List Nat) (hS : S w.drew)
    (h : S w.drew → AnyLate P .any ops Q S late ops.size (Array.replicate ops.size false) a w.drew) : (Code.region id ops true).wp P Q a w :=
  wp_region_any hm (AnyLate.any _ _ _ _ (h hS))
end
end Go.Proofs.Ytcapfahhoijblaa
