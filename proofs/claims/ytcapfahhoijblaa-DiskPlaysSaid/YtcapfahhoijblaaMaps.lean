/- Laws on maps keyed by int, at the level of the run. Conditions: each lemma's premises. -/
import Derived.Test.YtcapfahhoijblaaBase
set_option linter.unusedVariables false
set_option maxRecDepth 100000
namespace Go.Proofs.Ytcapfahhoijblaa
open Go.RowKit
section
variable {P : Program}
theorem findNow_none (p : Int) : ∀ (l : List MapEntry) (i : Nat), (∀ e ∈ l, ∃ k, e.key = .int .i64 k) → (∀ e ∈ l, e.key ≠ .int .i64 p) → Instr.findNow (.int .i64) (.int .i64 p) l i = some none
  | [], _, _, _ => rfl
  | e :: l, i, hi, hn => by
    obtain ⟨k, hk⟩ := hi e (by simp)
    have hne : p ≠ k := by rintro rfl; exact hn e (by simp) hk
    have hb : (p == k) = false := by simpa using hne
    simp only [Instr.findNow, hk, Instr.sameNow, if_true, hb]
    exact findNow_none p l (i + 1) (fun e he => hi e (by simp [he])) (fun e he => hn e (by simp [he]))
theorem findNow_some (p : Int) : ∀ (l : List MapEntry) (i : Nat), (∀ e ∈ l, ∃ k, e.key = .int .i64 k) → l.Pairwise (fun a b => a.key ≠ b.key) → ∀ e ∈ l, e.key = .int .i64 p → ∃ j, l[j]? = some e ∧ Instr.findNow (.int .i64) (.int .i64 p) l i = some (some (i + j, e.val))
  | [], _, _, _, e, he, _ => by cases he
  | x :: l, i, hi, hp, e, he, hk => by
    rcases List.mem_cons.1 he with rfl | he
    · exact ⟨0, rfl, by simp [Instr.findNow, hk, Instr.sameNow]⟩
    · obtain ⟨k, hkx⟩ := hi x (by simp)
      have hne : p ≠ k := by rintro rfl; exact (List.pairwise_cons.1 hp).1 e he (hkx.trans hk.symm)
      have hb : (p == k) = false := by simpa using hne
      obtain ⟨j, hj, hf⟩ := findNow_some p l (i + 1) (fun e he => hi e (by simp [he])) (List.pairwise_cons.1 hp).2 e he hk
      refine ⟨j + 1, by simpa using hj, ?_⟩
      simp only [Instr.findNow, hkx, Instr.sameNow, if_true, hb]
      rw [hf, Nat.add_assoc, Nat.add_comm 1 j]
theorem run_ck {w : World} {k : TypeId} {q : IntKind} (hk : P.underlying k = some (.int q)) (em : Bool) (n : Nat) (p : Int) : (Instr.checkKey em (n + 1) k (.int .i64 p)).run P w = .ok () w := by
  simp [Instr.checkKey, run_underlying hk, Result.andThen]
theorem run_fk {w : World} {k : TypeId} {q : IntKind} (hk : P.underlying k = some (.int q)) (v : Value) (l : List MapEntry) (r : Option (Nat × Value)) (h : Instr.findNow (.int q) v l 0 = some r) : (Instr.findKey k v l).run P w = .ok r w := by
  simp [Instr.findKey, run_underlying hk, h, Result.andThen]
theorem sameBits_int (n : Nat) (k : IntKind) (a : Int) : Instr.sameBits n (.int k a) (.int k a) = true := by cases n <;> simp [Instr.sameBits]
theorem run_getm {w : World} {mb : Nat} {es : Array MapEntry} {clock : Nat} (hm : w.heap[mb]? = some (.map es clock)) : (getObj mb).run P w = .ok (.map es clock) w := by simp [getObj, Sem.run, hm]
theorem run_setm {w : World} {mb : Nat} {es : Array MapEntry} {clock : Nat} (hm : w.heap[mb]? = some (.map es clock)) (o : Obj) : (setObj mb o).run P w = .ok () { w with heap := w.heap.setIfInBounds mb o } := by simp [setObj, Sem.run, hm]
theorem run_lookup_some {w : World} {t k e : TypeId} {mb : Nat} {es : Array MapEntry} {clock : Nat} (ht : P.underlying t = some (.map k e)) (hk : P.underlying k = some (.int .i64)) (hm : w.heap[mb]? = some (.map es clock))
    (hi : ∀ x ∈ es.toList, ∃ q, x.key = .int .i64 q) (hp : es.toList.Pairwise (fun a b => a.key ≠ b.key)) {x : MapEntry} (hx : x ∈ es.toList) {p : Int} (hxp : x.key = .int .i64 p) :
    (Instr.lookup t (.map (some mb)) (.int .i64 p) true).run P w = .ok (.tuple #[x.val, .bool true]) w := by
  obtain ⟨j, _, hf⟩ := findNow_some p es.toList 0 hi hp x hx hxp
  simp [Instr.lookup, run_underlying ht, run_getm hm, run_ck (P := P) hk _ 9999 p, run_fk hk _ _ _ hf, Result.andThen]
theorem run_lookup_none {w : World} {t k e : TypeId} {mb : Nat} {es : Array MapEntry} {clock : Nat} (ht : P.underlying t = some (.map k e)) (hk : P.underlying k = some (.int .i64)) {z : Value} (hz : ∀ w, (zeroValue e).run P w = .ok z w) (hm : w.heap[mb]? = some (.map es clock))
    (hi : ∀ x ∈ es.toList, ∃ q, x.key = .int .i64 q) {p : Int} (hn : ∀ x ∈ es.toList, x.key ≠ .int .i64 p) :
    (Instr.lookup t (.map (some mb)) (.int .i64 p) true).run P w = .ok (.tuple #[z, .bool false]) w := by
  have hf := findNow_none p es.toList 0 hi hn
  simp [Instr.lookup, run_underlying ht, run_getm hm, run_ck (P := P) hk _ 9999 p, run_fk hk _ _ _ hf, hz, Result.andThen]
theorem run_lookup1_some {w : World} {t k e : TypeId} {mb : Nat} {es : Array MapEntry} {clock : Nat} (ht : P.underlying t = some (.map k e)) (hk : P.underlying k = some (.int .i64)) (hm : w.heap[mb]? = some (.map es clock))
    (hi : ∀ x ∈ es.toList, ∃ q, x.key = .int .i64 q) (hp : es.toList.Pairwise (fun a b => a.key ≠ b.key)) {x : MapEntry} (hx : x ∈ es.toList) {p : Int} (hxp : x.key = .int .i64 p) :
    (Instr.lookup t (.map (some mb)) (.int .i64 p) false).run P w = .ok x.val w := by
  obtain ⟨j, _, hf⟩ := findNow_some p es.toList 0 hi hp x hx hxp
  simp [Instr.lookup, run_underlying ht, run_getm hm, run_ck (P := P) hk _ 9999 p, run_fk hk _ _ _ hf, Result.andThen]
theorem run_lookup1_none {w : World} {t k e : TypeId} {mb : Nat} {es : Array MapEntry} {clock : Nat} (ht : P.underlying t = some (.map k e)) (hk : P.underlying k = some (.int .i64)) {z : Value} (hz : ∀ w, (zeroValue e).run P w = .ok z w) (hm : w.heap[mb]? = some (.map es clock))
    (hi : ∀ x ∈ es.toList, ∃ q, x.key = .int .i64 q) {p : Int} (hn : ∀ x ∈ es.toList, x.key ≠ .int .i64 p) :
    (Instr.lookup t (.map (some mb)) (.int .i64 p) false).run P w = .ok z w := by
  have hf := findNow_none p es.toList 0 hi hn
  simp [Instr.lookup, run_underlying ht, run_getm hm, run_ck (P := P) hk _ 9999 p, run_fk hk _ _ _ hf, hz, Result.andThen]
theorem run_update_some {w : World} {t k e : TypeId} {mb : Nat} {es : Array MapEntry} {clock : Nat} (ht : P.underlying t = some (.map k e)) (hk : P.underlying k = some (.int .i64)) (hm : w.heap[mb]? = some (.map es clock))
    (hi : ∀ x ∈ es.toList, ∃ q, x.key = .int .i64 q) (hp : es.toList.Pairwise (fun a b => a.key ≠ b.key)) {x : MapEntry} (hx : x ∈ es.toList) {p : Int} (hxp : x.key = .int .i64 p) (v : Value) :
    ∃ j, es[j]? = some x ∧ (Instr.mapUpdate t (.map (some mb)) (.int .i64 p) v).run P w = .ok () { w with heap := w.heap.setIfInBounds mb (.map (es.modify j fun y => { y with key := .int .i64 p, val := v }) clock) } := by
  obtain ⟨j, hj, hf⟩ := findNow_some p es.toList 0 hi hp x hx hxp
  have hj' : es[j]? = some x := by simpa using hj
  refine ⟨j, hj', ?_⟩
  simp [Instr.mapUpdate, run_underlying ht, run_getm hm, run_setm hm, run_ck (P := P) hk _ 9999 p, run_fk hk _ _ _ hf, Result.andThen, hj', Instr.keyThatStays, hxp, sameBits_int]
theorem run_update_none {w : World} {t k e : TypeId} {mb : Nat} {es : Array MapEntry} {clock : Nat} (ht : P.underlying t = some (.map k e)) (hk : P.underlying k = some (.int .i64)) (hm : w.heap[mb]? = some (.map es clock))
    (hi : ∀ x ∈ es.toList, ∃ q, x.key = .int .i64 q) {p : Int} (hn : ∀ x ∈ es.toList, x.key ≠ .int .i64 p) (v : Value) :
    (Instr.mapUpdate t (.map (some mb)) (.int .i64 p) v).run P w = .ok () { w with heap := w.heap.setIfInBounds mb (.map (es.push { key := .int .i64 p, val := v, born := clock }) (clock + 1)) } := by
  have hf := findNow_none p es.toList 0 hi hn
  simp [Instr.mapUpdate, run_underlying ht, run_getm hm, run_setm hm, run_ck (P := P) hk _ 9999 p, run_fk hk _ _ _ hf, Result.andThen]
end
end Go.Proofs.Ytcapfahhoijblaa
