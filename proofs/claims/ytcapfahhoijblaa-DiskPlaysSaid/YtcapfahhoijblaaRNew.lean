/- The reference's device: NewDisk. Conditions: the contract's premises. -/
import Derived.Test.YtcapfahhoijblaaRDisk
set_option linter.unusedVariables false
set_option linter.unusedSimpArgs false
set_option maxRecDepth 100000
namespace Go.Proofs.Ytcapfahhoijblaa
open Go.RowKit
theorem rnew_next {n k : Nat} {w wr : World} {pv tv wv : Value} (hk : k < n)
    (h : Rows3 w.heap.size w wr w.heap.size pv tv wv (.int .i64 0) (.int .i64 0) (.bool false) pv tv wv (k + 1) (k + 1) (k + 1) (strs (List.replicate k zl) ++ [.string (strOfNums zl)]) (strs (List.replicate k zl) ++ [.string (strOfNums zl)]) (boolv (List.replicate k false) ++ [.bool false])) :
    RNewRel n w (.int .i64 ((k : Int) + 1)) wr := by
  rw [strs_snoc, boolv_snoc, ← List.replicate_succ', ← List.replicate_succ'] at h
  exact ⟨k + 1, pv, tv, wv, hk, by simp, h⟩
set_option maxHeartbeats 4000000 in
theorem rnew_any (n : Nat) (w : World) (h1 : 1 ≤ n) (h2 : n ≤ 48) : Calls Try.prog 18 #[.int .i64 n] w (RNewTo n w) := by
  have hn0 : ¬ (n : Int) < 1 := by omega
  have hn1 : ¬ (48 : Int) < (n : Int) := by omega
  go_enter Try.func18, Try.ntmps18
  go_wp2
  go_loopw [4] (fun i wr => RNewRel n w i wr) (fun i _ => n - (intOf i).toNat)
  case atStart =>
    refine ⟨0, .slice none 0 0, .slice none 0 0, .slice none 0 0, Nat.zero_le _, rfl, Blk.new w _ _, World.ownsRow_nil _ _ _ _, World.ownsRow_nil _ _ _ _, World.ownsRow_nil _ _ _ _, fun b hb => by simp [Value.ownBlock] at hb, Nat.le_refl _, (Below.refl _ _).alloc (Nat.le_refl _) _, Nat.le_refl _⟩
  case round =>
    obtain ⟨k, pv, tv, wv, hk, rfl, M⟩ := hrel
    have HM := Lib.hid M
    clear M
    by_cases hlt : k < n
    · go_wp2_with fail
      have M := HM.out
      clear HM
      refine AnyLate.start (by kernel_rfl) (fun w' => w'.cell? ⟨w.heap.size, 0, none⟩ = some pv ∧ w'.cell? ⟨w.heap.size, 1, none⟩ = some tv ∧ w'.cell? ⟨w.heap.size, 2, none⟩ = some wv) [25, 28, 31] ?_ (fun hSw0 => ?_)
      · exact M.drew.S
      replace M := M.drew
      refine AnyLate.take (i := 0) (v := ?_) rfl (by kernel_rfl) (by kernel_rfl) (by kernel_rfl) (by kernel_rfl) (fun _ _ _ h => h) (Or.inl ⟨by rfl, ?_⟩) (fun _ => M.S) ?_; rotate_left
      · intro wS hSw; first | (go_simp; done) | (go_simp; with_reducible rfl)
      try simp only [Act.put, List.setIfInBounds_toArray, List.set_cons_zero, List.set_cons_succ]
      refine AnyLate.take (i := 1) (v := ?_) rfl (by kernel_rfl) (by kernel_rfl) (by kernel_rfl) (by kernel_rfl) (fun _ _ _ h => h) (Or.inl ⟨by rfl, ?_⟩) (fun _ => M.S) ?_; rotate_left
      · intro wS hSw; first | (go_simp; done) | (go_simp; with_reducible rfl)
      try simp only [Act.put, List.setIfInBounds_toArray, List.set_cons_zero, List.set_cons_succ]
      refine AnyLate.take (i := 2) (v := ?_) rfl (by kernel_rfl) (by kernel_rfl) (by kernel_rfl) (by kernel_rfl) (fun _ _ _ h => h) (Or.inl ⟨by rfl, ?_⟩) (fun _ => M.S) ?_; rotate_left
      · intro wS hSw; first | (go_simp; done) | (go_simp; with_reducible rfl)
      try simp only [Act.put, List.setIfInBounds_toArray, List.set_cons_zero, List.set_cons_succ]
      refine AnyLate.take (i := 3) (v := ?_) rfl (by kernel_rfl) (by kernel_rfl) (by kernel_rfl) (by kernel_rfl) (fun _ _ _ h => h) (Or.inl ⟨by rfl, ?_⟩) (fun _ => M.S) ?_; rotate_left
      · intro wS hSw; first | (go_simp; done) | (go_simp; with_reducible rfl)
      try simp only [Act.put, List.setIfInBounds_toArray, List.set_cons_zero, List.set_cons_succ]
      refine AnyLate.take (i := 4) (v := ?_) rfl (by kernel_rfl) (by kernel_rfl) (by kernel_rfl) (by kernel_rfl) (fun _ _ _ h => h) (Or.inl ⟨by rfl, ?_⟩) (fun _ => M.S) ?_; rotate_left
      · intro wS hSw; first | (go_simp; done) | (go_simp; with_reducible rfl)
      try simp only [Act.put, List.setIfInBounds_toArray, List.set_cons_zero, List.set_cons_succ]
      refine AnyLate.take (i := 5) (v := ?_) rfl (by kernel_rfl) (by kernel_rfl) (by kernel_rfl) (by kernel_rfl) (fun _ _ _ h => h) (Or.inl ⟨by rfl, ?_⟩) (fun _ => M.S) ?_; rotate_left
      · intro wS hSw; first | (go_simp; done) | (go_simp; with_reducible rfl)
      try simp only [Act.put, List.setIfInBounds_toArray, List.set_cons_zero, List.set_cons_succ]
      refine AnyLate.load (i := 6) (v := ?_) rfl (by kernel_rfl) (by kernel_rfl) (by kernel_rfl) (by kernel_rfl) (fun _ _ _ h => h) (Or.inl ⟨by rfl, ?_⟩) M.S ?_; rotate_left
      · intro wS hSw; obtain ⟨cS0, cS1, cS2⟩ := hSw; first | (go_simp; done) | (go_simp; with_reducible rfl)
      try simp only [Act.put, List.setIfInBounds_toArray, List.set_cons_zero, List.set_cons_succ]
      refine AnyLate.take (i := 10) (v := ?_) rfl (by kernel_rfl) (by kernel_rfl) (by kernel_rfl) (by kernel_rfl) (fun _ _ _ h => h) (Or.inl ⟨by rfl, ?_⟩) (fun _ => M.S) ?_; rotate_left
      · intro wS hSw; first | (go_simp; done) | (go_simp; with_reducible rfl)
      try simp only [Act.put, List.setIfInBounds_toArray, List.set_cons_zero, List.set_cons_succ]
      refine AnyLate.take (i := 11) (v := ?_) rfl (by kernel_rfl) (by kernel_rfl) (by kernel_rfl) (by kernel_rfl) (fun _ _ _ h => h) (Or.inl ⟨by rfl, ?_⟩) (fun _ => M.S) ?_; rotate_left
      · intro wS hSw; first | (go_simp; done) | (go_simp; with_reducible rfl)
      try simp only [Act.put, List.setIfInBounds_toArray, List.set_cons_zero, List.set_cons_succ]
      refine AnyLate.take (i := 12) (v := ?_) rfl (by kernel_rfl) (by kernel_rfl) (by kernel_rfl) (by kernel_rfl) (fun _ _ _ h => h) (Or.inl ⟨by rfl, ?_⟩) (fun _ => M.S) ?_; rotate_left
      · intro wS hSw; first | (go_simp; done) | (go_simp; with_reducible rfl)
      try simp only [Act.put, List.setIfInBounds_toArray, List.set_cons_zero, List.set_cons_succ]
      refine AnyLate.load (i := 13) (v := ?_) rfl (by kernel_rfl) (by kernel_rfl) (by kernel_rfl) (by kernel_rfl) (fun _ _ _ h => h) (Or.inl ⟨by rfl, ?_⟩) M.S ?_; rotate_left
      · intro wS hSw; obtain ⟨cS0, cS1, cS2⟩ := hSw; first | (go_simp; done) | (go_simp; with_reducible rfl)
      try simp only [Act.put, List.setIfInBounds_toArray, List.set_cons_zero, List.set_cons_succ]
      refine AnyLate.take (i := 17) (v := ?_) rfl (by kernel_rfl) (by kernel_rfl) (by kernel_rfl) (by kernel_rfl) (fun _ _ _ h => h) (Or.inl ⟨by rfl, ?_⟩) (fun _ => M.S) ?_; rotate_left
      · intro wS hSw; first | (go_simp; done) | (go_simp; with_reducible rfl)
      try simp only [Act.put, List.setIfInBounds_toArray, List.set_cons_zero, List.set_cons_succ]
      refine AnyLate.take (i := 18) (v := ?_) rfl (by kernel_rfl) (by kernel_rfl) (by kernel_rfl) (by kernel_rfl) (fun _ _ _ h => h) (Or.inl ⟨by rfl, ?_⟩) (fun _ => M.S) ?_; rotate_left
      · intro wS hSw; first | (go_simp; done) | (go_simp; with_reducible rfl)
      try simp only [Act.put, List.setIfInBounds_toArray, List.set_cons_zero, List.set_cons_succ]
      refine AnyLate.take (i := 19) (v := ?_) rfl (by kernel_rfl) (by kernel_rfl) (by kernel_rfl) (by kernel_rfl) (fun _ _ _ h => h) (Or.inl ⟨by rfl, ?_⟩) (fun _ => M.S) ?_; rotate_left
      · intro wS hSw; first | (go_simp; done) | (go_simp; with_reducible rfl)
      try simp only [Act.put, List.setIfInBounds_toArray, List.set_cons_zero, List.set_cons_succ]
      refine AnyLate.load (i := 20) (v := ?_) rfl (by kernel_rfl) (by kernel_rfl) (by kernel_rfl) (by kernel_rfl) (fun _ _ _ h => h) (Or.inl ⟨by rfl, ?_⟩) M.S ?_; rotate_left
      · intro wS hSw; obtain ⟨cS0, cS1, cS2⟩ := hSw; first | (go_simp; done) | (go_simp; with_reducible rfl)
      try simp only [Act.put, List.setIfInBounds_toArray, List.set_cons_zero, List.set_cons_succ]
      refine AnyLate.ready (rs := [7, 21]) (by kernel_rfl) (by simp) ?_
      refine AllLate.cons rfl (fun K hK => ?_) ?_
      ·
        go_simp
        go_at_call 47
        refine (rblank_any _).mono ?_
        rintro e w1 ⟨rfl, hb⟩
        replace M := M.below hb
        try replace N3 := N3.fr (Fr.of_below hb (fun _ => False)) (fun h => h)
        clear hb
        refine hK.out _ _ (fun _ => M.S) ?_
        try simp only [Act.put, List.setIfInBounds_toArray, List.set_cons_zero, List.set_cons_succ]
        refine AnyLate.ready (rs := [8, 21]) (by kernel_rfl) (by simp) ?_
        refine AllLate.cons rfl (fun K hK => ?_) ?_
        ·
          go_simp
          have N1 := M.new 9 #[.string (strOfNums zl)]
          try simp only [size_alloc] at N1
          replace M := M.alloc (.cells #[.string (strOfNums zl)] 9)
          try replace N3 := N3.alloc (.cells #[.string (strOfNums zl)] 9)
          refine hK.out _ _ (fun _ => M.S) ?_
          try simp only [Act.put, List.setIfInBounds_toArray, List.set_cons_zero, List.set_cons_succ]
          refine AnyLate.ready (rs := [9, 21]) (by kernel_rfl) (by simp) ?_
          refine AllLate.cons rfl (fun K hK => ?_) ?_
          ·
            refine step_ap w.heap.size rfl (.tmp 24) (.tmp 26) 46 9 (.string ⟨#[]⟩) 1 16 rfl Try.underlying46 Try.infoS rfl (by omega) pv k _ (by rfl) M.o1 _ 1 1 [.string (strOfNums zl)] (by rfl) rfl (fun _ => ⟨_, rfl, blk_one N1⟩) (by simp [Value.oneCell']) (by omega) (by omega) M.up ?_
            intro v1 w1 ho hg hat
            obtain ⟨g1, kv1, rfl, _⟩ := own_form ho (by omega)
            try replace N3 := N3.grown hg (fun e => own_row_type M.o1 N3 (by decide) _ e.symm rfl)
            replace M := M.app1 ho hg hat
            clear ho hg hat N1
            refine hK.out _ _ (fun _ => M.S) ?_
            try simp only [Act.put, List.setIfInBounds_toArray, List.set_cons_zero, List.set_cons_succ]
            refine AnyLate.ready (rs := [14, 21]) (by kernel_rfl) (by simp) ?_
            refine AllLate.cons rfl (fun K hK => ?_) ?_
            ·
              go_simp
              go_at_call 47
              refine (rblank_any _).mono ?_
              rintro e w1 ⟨rfl, hb⟩
              replace M := M.below hb
              try replace N3 := N3.fr (Fr.of_below hb (fun _ => False)) (fun h => h)
              clear hb
              refine hK.out _ _ (fun _ => M.S) ?_
              try simp only [Act.put, List.setIfInBounds_toArray, List.set_cons_zero, List.set_cons_succ]
              refine AnyLate.ready (rs := [15, 21]) (by kernel_rfl) (by simp) ?_
              refine AllLate.cons rfl (fun K hK => ?_) ?_
              ·
                go_simp
                have N2 := M.new 9 #[.string (strOfNums zl)]
                try simp only [size_alloc] at N2
                replace M := M.alloc (.cells #[.string (strOfNums zl)] 9)
                try replace N3 := N3.alloc (.cells #[.string (strOfNums zl)] 9)
                refine hK.out _ _ (fun _ => M.S) ?_
                try simp only [Act.put, List.setIfInBounds_toArray, List.set_cons_zero, List.set_cons_succ]
                refine AnyLate.ready (rs := [16, 21]) (by kernel_rfl) (by simp) ?_
                refine AllLate.cons rfl (fun K hK => ?_) ?_
                ·
                  refine step_ap w.heap.size rfl (.tmp 31) (.tmp 33) 46 9 (.string ⟨#[]⟩) 1 16 rfl Try.underlying46 Try.infoS rfl (by omega) tv k _ (by rfl) M.o2 _ 1 1 [.string (strOfNums zl)] (by rfl) rfl (fun _ => ⟨_, rfl, blk_one N2⟩) (by simp [Value.oneCell']) (by omega) (by omega) M.up ?_
                  intro v2 w1 ho hg hat
                  obtain ⟨g2, kv2, rfl, _⟩ := own_form ho (by omega)
                  try replace N3 := N3.grown hg (fun e => own_row_type M.o2 N3 (by decide) _ e.symm rfl)
                  replace M := M.app2 ho hg hat
                  clear ho hg hat N2
                  refine hK.out _ _ (fun _ => M.S) ?_
                  try simp only [Act.put, List.setIfInBounds_toArray, List.set_cons_zero, List.set_cons_succ]
                  refine AnyLate.ready (rs := [21]) (by kernel_rfl) (by simp) ?_
                  refine AllLate.cons rfl (fun K hK => ?_) ?_
                  ·
                    go_simp
                    have N3 := M.new 4 #[.bool false]
                    try simp only [size_alloc] at N3
                    replace M := M.alloc (.cells #[.bool false] 4)
                    try replace N1 := N1.alloc (.cells #[.bool false] 4)
                    try replace N2 := N2.alloc (.cells #[.bool false] 4)
                    refine hK.out _ _ (fun _ => M.S) ?_
                    try simp only [Act.put, List.setIfInBounds_toArray, List.set_cons_zero, List.set_cons_succ]
                    refine AnyLate.ready (rs := [22]) (by kernel_rfl) (by simp) ?_
                    refine AllLate.cons rfl (fun K hK => ?_) ?_
                    ·
                      refine step_ap w.heap.size rfl (.tmp 38) (.tmp 39) 37 4 (.bool false) 1 1 rfl Try.underlying37 Try.infoB rfl (by omega) wv k _ (by rfl) M.o3 _ 1 1 [.bool false] (by rfl) rfl (fun _ => ⟨_, rfl, blk_one N3⟩) (by simp [Value.oneCell']) (by omega) (by omega) M.up ?_
                      intro v3 w1 ho hg hat
                      obtain ⟨g3, kv3, rfl, _⟩ := own_form ho (by omega)
                      replace M := M.app3 ho hg
                      clear ho hg hat N3
                      refine hK.out _ _ (fun _ => M.S) ?_
                      try simp only [Act.put, List.setIfInBounds_toArray, List.set_cons_zero, List.set_cons_succ]
                      refine AnyLate.take (i := 23) (v := ?_) rfl (by kernel_rfl) (by kernel_rfl) (by kernel_rfl) (by kernel_rfl) (fun _ _ _ h => h) (Or.inl ⟨by rfl, ?_⟩) (fun _ => M.S) ?_; rotate_left
                      · intro wS hSw; first | (go_simp; done) | (go_simp; with_reducible rfl)
                      try simp only [Act.put, List.setIfInBounds_toArray, List.set_cons_zero, List.set_cons_succ]
                      refine AnyLate.take (i := 24) (v := ?_) rfl (by kernel_rfl) (by kernel_rfl) (by kernel_rfl) (by kernel_rfl) (fun _ _ _ h => h) (Or.inl ⟨by rfl, ?_⟩) (fun _ => M.S) ?_; rotate_left
                      · intro wS hSw; first | (go_simp; done) | (go_simp; with_reducible rfl)
                      try simp only [Act.put, List.setIfInBounds_toArray, List.set_cons_zero, List.set_cons_succ]
                      refine AnyLate.ready (rs := [25]) (by kernel_rfl) (by simp) ?_
                      refine AllLate.cons rfl (fun K hK => ?_) ?_
                      ·
                        have c0 := M.blk.cell 0 _ rfl
                        have f0 := M.blk.free 0
                        go_simp
                        replace M := M.cell 0 (.slice (some ⟨g1, 0, none⟩) (k + 1) kv1) _ _ _ _ _ _ rfl
                        clear c0 f0
                        refine hK.out _ _ (fun h => absurd h (by decide)) ?_
                        try simp only [Act.put, List.setIfInBounds_toArray, List.set_cons_zero, List.set_cons_succ]
                        refine AnyLate.take (i := 26) (v := ?_) rfl (by kernel_rfl) (by kernel_rfl) (by kernel_rfl) (by kernel_rfl) (fun _ _ _ h => h) (Or.inl ⟨by rfl, ?_⟩) (fun h => absurd h (by decide)) ?_; rotate_left
                        · intro wS hSw; first | (go_simp; done) | (go_simp; with_reducible rfl)
                        try simp only [Act.put, List.setIfInBounds_toArray, List.set_cons_zero, List.set_cons_succ]
                        refine AnyLate.take (i := 27) (v := ?_) rfl (by kernel_rfl) (by kernel_rfl) (by kernel_rfl) (by kernel_rfl) (fun _ _ _ h => h) (Or.inl ⟨by rfl, ?_⟩) (fun h => absurd h (by decide)) ?_; rotate_left
                        · intro wS hSw; first | (go_simp; done) | (go_simp; with_reducible rfl)
                        try simp only [Act.put, List.setIfInBounds_toArray, List.set_cons_zero, List.set_cons_succ]
                        refine AnyLate.ready (rs := [28]) (by kernel_rfl) (by simp) ?_
                        refine AllLate.cons rfl (fun K hK => ?_) ?_
                        ·
                          have c0 := M.blk.cell 1 _ rfl
                          have f0 := M.blk.free 1
                          go_simp
                          replace M := M.cell 1 (.slice (some ⟨g2, 0, none⟩) (k + 1) kv2) _ _ _ _ _ _ rfl
                          clear c0 f0
                          refine hK.out _ _ (fun h => absurd h (by decide)) ?_
                          try simp only [Act.put, List.setIfInBounds_toArray, List.set_cons_zero, List.set_cons_succ]
                          refine AnyLate.take (i := 29) (v := ?_) rfl (by kernel_rfl) (by kernel_rfl) (by kernel_rfl) (by kernel_rfl) (fun _ _ _ h => h) (Or.inl ⟨by rfl, ?_⟩) (fun h => absurd h (by decide)) ?_; rotate_left
                          · intro wS hSw; first | (go_simp; done) | (go_simp; with_reducible rfl)
                          try simp only [Act.put, List.setIfInBounds_toArray, List.set_cons_zero, List.set_cons_succ]
                          refine AnyLate.take (i := 30) (v := ?_) rfl (by kernel_rfl) (by kernel_rfl) (by kernel_rfl) (by kernel_rfl) (fun _ _ _ h => h) (Or.inl ⟨by rfl, ?_⟩) (fun h => absurd h (by decide)) ?_; rotate_left
                          · intro wS hSw; first | (go_simp; done) | (go_simp; with_reducible rfl)
                          try simp only [Act.put, List.setIfInBounds_toArray, List.set_cons_zero, List.set_cons_succ]
                          refine AnyLate.ready (rs := [31]) (by kernel_rfl) (by simp) ?_
                          refine AllLate.cons rfl (fun K hK => ?_) ?_
                          ·
                            have c0 := M.blk.cell 2 _ rfl
                            have f0 := M.blk.free 2
                            go_simp
                            replace M := M.cell 2 (.slice (some ⟨g3, 0, none⟩) (k + 1) kv3) _ _ _ _ _ _ rfl
                            clear c0 f0
                            refine hK.out _ _ (fun h => absurd h (by decide)) ?_
                            try simp only [Act.put, List.setIfInBounds_toArray, List.set_cons_zero, List.set_cons_succ]
                            refine AnyLate.done (by kernel_rfl) ?_ _
                            have HM := Lib.hid M
                            clear M
                            go_wp2
                            exact ⟨rnew_next hlt HM.out, by simp [intOf]; omega⟩
                          exact AllLate.nil
                        exact AllLate.nil
                      exact AllLate.nil
                    exact AllLate.nil
                  exact AllLate.nil
                refine AllLate.cons rfl (fun K hK => ?_) ?_
                ·
                  go_simp
                  have N3 := M.new 4 #[.bool false]
                  try simp only [size_alloc] at N3
                  replace M := M.alloc (.cells #[.bool false] 4)
                  try replace N1 := N1.alloc (.cells #[.bool false] 4)
                  try replace N2 := N2.alloc (.cells #[.bool false] 4)
                  refine hK.out _ _ (fun _ => M.S) ?_
                  try simp only [Act.put, List.setIfInBounds_toArray, List.set_cons_zero, List.set_cons_succ]
                  refine AnyLate.ready (rs := [16]) (by kernel_rfl) (by simp) ?_
                  refine AllLate.cons rfl (fun K hK => ?_) ?_
                  ·
                    refine step_ap w.heap.size rfl (.tmp 31) (.tmp 33) 46 9 (.string ⟨#[]⟩) 1 16 rfl Try.underlying46 Try.infoS rfl (by omega) tv k _ (by rfl) M.o2 _ 1 1 [.string (strOfNums zl)] (by rfl) rfl (fun _ => ⟨_, rfl, blk_one N2⟩) (by simp [Value.oneCell']) (by omega) (by omega) M.up ?_
                    intro v2 w1 ho hg hat
                    obtain ⟨g2, kv2, rfl, _⟩ := own_form ho (by omega)
                    try replace N3 := N3.grown hg (fun e => own_row_type M.o2 N3 (by decide) _ e.symm rfl)
                    replace M := M.app2 ho hg hat
                    clear ho hg hat N2
                    refine hK.out _ _ (fun _ => M.S) ?_
                    try simp only [Act.put, List.setIfInBounds_toArray, List.set_cons_zero, List.set_cons_succ]
                    refine AnyLate.ready (rs := [22]) (by kernel_rfl) (by simp) ?_
                    refine AllLate.cons rfl (fun K hK => ?_) ?_
                    ·
                      refine step_ap w.heap.size rfl (.tmp 38) (.tmp 39) 37 4 (.bool false) 1 1 rfl Try.underlying37 Try.infoB rfl (by omega) wv k _ (by rfl) M.o3 _ 1 1 [.bool false] (by rfl) rfl (fun _ => ⟨_, rfl, blk_one N3⟩) (by simp [Value.oneCell']) (by omega) (by omega) M.up ?_
                      intro v3 w1 ho hg hat
                      obtain ⟨g3, kv3, rfl, _⟩ := own_form ho (by omega)
                      replace M := M.app3 ho hg
                      clear ho hg hat N3
                      refine hK.out _ _ (fun _ => M.S) ?_
                      try simp only [Act.put, List.setIfInBounds_toArray, List.set_cons_zero, List.set_cons_succ]
                      refine AnyLate.take (i := 23) (v := ?_) rfl (by kernel_rfl) (by kernel_rfl) (by kernel_rfl) (by kernel_rfl) (fun _ _ _ h => h) (Or.inl ⟨by rfl, ?_⟩) (fun _ => M.S) ?_; rotate_left
                      · intro wS hSw; first | (go_simp; done) | (go_simp; with_reducible rfl)
                      try simp only [Act.put, List.setIfInBounds_toArray, List.set_cons_zero, List.set_cons_succ]
                      refine AnyLate.take (i := 24) (v := ?_) rfl (by kernel_rfl) (by kernel_rfl) (by kernel_rfl) (by kernel_rfl) (fun _ _ _ h => h) (Or.inl ⟨by rfl, ?_⟩) (fun _ => M.S) ?_; rotate_left
                      · intro wS hSw; first | (go_simp; done) | (go_simp; with_reducible rfl)
                      try simp only [Act.put, List.setIfInBounds_toArray, List.set_cons_zero, List.set_cons_succ]
                      refine AnyLate.ready (rs := [25]) (by kernel_rfl) (by simp) ?_
                      refine AllLate.cons rfl (fun K hK => ?_) ?_
                      ·
                        have c0 := M.blk.cell 0 _ rfl
                        have f0 := M.blk.free 0
                        go_simp
                        replace M := M.cell 0 (.slice (some ⟨g1, 0, none⟩) (k + 1) kv1) _ _ _ _ _ _ rfl
                        clear c0 f0
                        refine hK.out _ _ (fun h => absurd h (by decide)) ?_
                        try simp only [Act.put, List.setIfInBounds_toArray, List.set_cons_zero, List.set_cons_succ]
                        refine AnyLate.take (i := 26) (v := ?_) rfl (by kernel_rfl) (by kernel_rfl) (by kernel_rfl) (by kernel_rfl) (fun _ _ _ h => h) (Or.inl ⟨by rfl, ?_⟩) (fun h => absurd h (by decide)) ?_; rotate_left
                        · intro wS hSw; first | (go_simp; done) | (go_simp; with_reducible rfl)
                        try simp only [Act.put, List.setIfInBounds_toArray, List.set_cons_zero, List.set_cons_succ]
                        refine AnyLate.take (i := 27) (v := ?_) rfl (by kernel_rfl) (by kernel_rfl) (by kernel_rfl) (by kernel_rfl) (fun _ _ _ h => h) (Or.inl ⟨by rfl, ?_⟩) (fun h => absurd h (by decide)) ?_; rotate_left
                        · intro wS hSw; first | (go_simp; done) | (go_simp; with_reducible rfl)
                        try simp only [Act.put, List.setIfInBounds_toArray, List.set_cons_zero, List.set_cons_succ]
                        refine AnyLate.ready (rs := [28]) (by kernel_rfl) (by simp) ?_
                        refine AllLate.cons rfl (fun K hK => ?_) ?_
                        ·
                          have c0 := M.blk.cell 1 _ rfl
                          have f0 := M.blk.free 1
                          go_simp
                          replace M := M.cell 1 (.slice (some ⟨g2, 0, none⟩) (k + 1) kv2) _ _ _ _ _ _ rfl
                          clear c0 f0
                          refine hK.out _ _ (fun h => absurd h (by decide)) ?_
                          try simp only [Act.put, List.setIfInBounds_toArray, List.set_cons_zero, List.set_cons_succ]
                          refine AnyLate.take (i := 29) (v := ?_) rfl (by kernel_rfl) (by kernel_rfl) (by kernel_rfl) (by kernel_rfl) (fun _ _ _ h => h) (Or.inl ⟨by rfl, ?_⟩) (fun h => absurd h (by decide)) ?_; rotate_left
                          · intro wS hSw; first | (go_simp; done) | (go_simp; with_reducible rfl)
                          try simp only [Act.put, List.setIfInBounds_toArray, List.set_cons_zero, List.set_cons_succ]
                          refine AnyLate.take (i := 30) (v := ?_) rfl (by kernel_rfl) (by kernel_rfl) (by kernel_rfl) (by kernel_rfl) (fun _ _ _ h => h) (Or.inl ⟨by rfl, ?_⟩) (fun h => absurd h (by decide)) ?_; rotate_left
                          · intro wS hSw; first | (go_simp; done) | (go_simp; with_reducible rfl)
                          try simp only [Act.put, List.setIfInBounds_toArray, List.set_cons_zero, List.set_cons_succ]
                          refine AnyLate.ready (rs := [31]) (by kernel_rfl) (by simp) ?_
                          refine AllLate.cons rfl (fun K hK => ?_) ?_
                          ·
                            have c0 := M.blk.cell 2 _ rfl
                            have f0 := M.blk.free 2
                            go_simp
                            replace M := M.cell 2 (.slice (some ⟨g3, 0, none⟩) (k + 1) kv3) _ _ _ _ _ _ rfl
                            clear c0 f0
                            refine hK.out _ _ (fun h => absurd h (by decide)) ?_
                            try simp only [Act.put, List.setIfInBounds_toArray, List.set_cons_zero, List.set_cons_succ]
                            refine AnyLate.done (by kernel_rfl) ?_ _
                            have HM := Lib.hid M
                            clear M
                            go_wp2
                            exact ⟨rnew_next hlt HM.out, by simp [intOf]; omega⟩
                          exact AllLate.nil
                        exact AllLate.nil
                      exact AllLate.nil
                    exact AllLate.nil
                  exact AllLate.nil
                exact AllLate.nil
              refine AllLate.cons rfl (fun K hK => ?_) ?_
              ·
                go_simp
                have N3 := M.new 4 #[.bool false]
                try simp only [size_alloc] at N3
                replace M := M.alloc (.cells #[.bool false] 4)
                try replace N1 := N1.alloc (.cells #[.bool false] 4)
                try replace N2 := N2.alloc (.cells #[.bool false] 4)
                refine hK.out _ _ (fun _ => M.S) ?_
                try simp only [Act.put, List.setIfInBounds_toArray, List.set_cons_zero, List.set_cons_succ]
                refine AnyLate.ready (rs := [15]) (by kernel_rfl) (by simp) ?_
                refine AllLate.cons rfl (fun K hK => ?_) ?_
                ·
                  go_simp
                  have N2 := M.new 9 #[.string (strOfNums zl)]
                  try simp only [size_alloc] at N2
                  replace M := M.alloc (.cells #[.string (strOfNums zl)] 9)
                  try replace N3 := N3.alloc (.cells #[.string (strOfNums zl)] 9)
                  refine hK.out _ _ (fun _ => M.S) ?_
                  try simp only [Act.put, List.setIfInBounds_toArray, List.set_cons_zero, List.set_cons_succ]
                  refine AnyLate.ready (rs := [16]) (by kernel_rfl) (by simp) ?_
                  refine AllLate.cons rfl (fun K hK => ?_) ?_
                  ·
                    refine step_ap w.heap.size rfl (.tmp 31) (.tmp 33) 46 9 (.string ⟨#[]⟩) 1 16 rfl Try.underlying46 Try.infoS rfl (by omega) tv k _ (by rfl) M.o2 _ 1 1 [.string (strOfNums zl)] (by rfl) rfl (fun _ => ⟨_, rfl, blk_one N2⟩) (by simp [Value.oneCell']) (by omega) (by omega) M.up ?_
                    intro v2 w1 ho hg hat
                    obtain ⟨g2, kv2, rfl, _⟩ := own_form ho (by omega)
                    try replace N3 := N3.grown hg (fun e => own_row_type M.o2 N3 (by decide) _ e.symm rfl)
                    replace M := M.app2 ho hg hat
                    clear ho hg hat N2
                    refine hK.out _ _ (fun _ => M.S) ?_
                    try simp only [Act.put, List.setIfInBounds_toArray, List.set_cons_zero, List.set_cons_succ]
                    refine AnyLate.ready (rs := [22]) (by kernel_rfl) (by simp) ?_
                    refine AllLate.cons rfl (fun K hK => ?_) ?_
                    ·
                      refine step_ap w.heap.size rfl (.tmp 38) (.tmp 39) 37 4 (.bool false) 1 1 rfl Try.underlying37 Try.infoB rfl (by omega) wv k _ (by rfl) M.o3 _ 1 1 [.bool false] (by rfl) rfl (fun _ => ⟨_, rfl, blk_one N3⟩) (by simp [Value.oneCell']) (by omega) (by omega) M.up ?_
                      intro v3 w1 ho hg hat
                      obtain ⟨g3, kv3, rfl, _⟩ := own_form ho (by omega)
                      replace M := M.app3 ho hg
                      clear ho hg hat N3
                      refine hK.out _ _ (fun _ => M.S) ?_
                      try simp only [Act.put, List.setIfInBounds_toArray, List.set_cons_zero, List.set_cons_succ]
                      refine AnyLate.take (i := 23) (v := ?_) rfl (by kernel_rfl) (by kernel_rfl) (by kernel_rfl) (by kernel_rfl) (fun _ _ _ h => h) (Or.inl ⟨by rfl, ?_⟩) (fun _ => M.S) ?_; rotate_left
                      · intro wS hSw; first | (go_simp; done) | (go_simp; with_reducible rfl)
                      try simp only [Act.put, List.setIfInBounds_toArray, List.set_cons_zero, List.set_cons_succ]
                      refine AnyLate.take (i := 24) (v := ?_) rfl (by kernel_rfl) (by kernel_rfl) (by kernel_rfl) (by kernel_rfl) (fun _ _ _ h => h) (Or.inl ⟨by rfl, ?_⟩) (fun _ => M.S) ?_; rotate_left
                      · intro wS hSw; first | (go_simp; done) | (go_simp; with_reducible rfl)
                      try simp only [Act.put, List.setIfInBounds_toArray, List.set_cons_zero, List.set_cons_succ]
                      refine AnyLate.ready (rs := [25]) (by kernel_rfl) (by simp) ?_
                      refine AllLate.cons rfl (fun K hK => ?_) ?_
                      ·
                        have c0 := M.blk.cell 0 _ rfl
                        have f0 := M.blk.free 0
                        go_simp
                        replace M := M.cell 0 (.slice (some ⟨g1, 0, none⟩) (k + 1) kv1) _ _ _ _ _ _ rfl
                        clear c0 f0
                        refine hK.out _ _ (fun h => absurd h (by decide)) ?_
                        try simp only [Act.put, List.setIfInBounds_toArray, List.set_cons_zero, List.set_cons_succ]
                        refine AnyLate.take (i := 26) (v := ?_) rfl (by kernel_rfl) (by kernel_rfl) (by kernel_rfl) (by kernel_rfl) (fun _ _ _ h => h) (Or.inl ⟨by rfl, ?_⟩) (fun h => absurd h (by decide)) ?_; rotate_left
                        · intro wS hSw; first | (go_simp; done) | (go_simp; with_reducible rfl)
                        try simp only [Act.put, List.setIfInBounds_toArray, List.set_cons_zero, List.set_cons_succ]
                        refine AnyLate.take (i := 27) (v := ?_) rfl (by kernel_rfl) (by kernel_rfl) (by kernel_rfl) (by kernel_rfl) (fun _ _ _ h => h) (Or.inl ⟨by rfl, ?_⟩) (fun h => absurd h (by decide)) ?_; rotate_left
                        · intro wS hSw; first | (go_simp; done) | (go_simp; with_reducible rfl)
                        try simp only [Act.put, List.setIfInBounds_toArray, List.set_cons_zero, List.set_cons_succ]
                        refine AnyLate.ready (rs := [28]) (by kernel_rfl) (by simp) ?_
                        refine AllLate.cons rfl (fun K hK => ?_) ?_
                        ·
                          have c0 := M.blk.cell 1 _ rfl
                          have f0 := M.blk.free 1
                          go_simp
                          replace M := M.cell 1 (.slice (some ⟨g2, 0, none⟩) (k + 1) kv2) _ _ _ _ _ _ rfl
                          clear c0 f0
                          refine hK.out _ _ (fun h => absurd h (by decide)) ?_
                          try simp only [Act.put, List.setIfInBounds_toArray, List.set_cons_zero, List.set_cons_succ]
                          refine AnyLate.take (i := 29) (v := ?_) rfl (by kernel_rfl) (by kernel_rfl) (by kernel_rfl) (by kernel_rfl) (fun _ _ _ h => h) (Or.inl ⟨by rfl, ?_⟩) (fun h => absurd h (by decide)) ?_; rotate_left
                          · intro wS hSw; first | (go_simp; done) | (go_simp; with_reducible rfl)
                          try simp only [Act.put, List.setIfInBounds_toArray, List.set_cons_zero, List.set_cons_succ]
                          refine AnyLate.take (i := 30) (v := ?_) rfl (by kernel_rfl) (by kernel_rfl) (by kernel_rfl) (by kernel_rfl) (fun _ _ _ h => h) (Or.inl ⟨by rfl, ?_⟩) (fun h => absurd h (by decide)) ?_; rotate_left
                          · intro wS hSw; first | (go_simp; done) | (go_simp; with_reducible rfl)
                          try simp only [Act.put, List.setIfInBounds_toArray, List.set_cons_zero, List.set_cons_succ]
                          refine AnyLate.ready (rs := [31]) (by kernel_rfl) (by simp) ?_
                          refine AllLate.cons rfl (fun K hK => ?_) ?_
                          ·
                            have c0 := M.blk.cell 2 _ rfl
                            have f0 := M.blk.free 2
                            go_simp
                            replace M := M.cell 2 (.slice (some ⟨g3, 0, none⟩) (k + 1) kv3) _ _ _ _ _ _ rfl
                            clear c0 f0
                            refine hK.out _ _ (fun h => absurd h (by decide)) ?_
                            try simp only [Act.put, List.setIfInBounds_toArray, List.set_cons_zero, List.set_cons_succ]
                            refine AnyLate.done (by kernel_rfl) ?_ _
                            have HM := Lib.hid M
                            clear M
                            go_wp2
                            exact ⟨rnew_next hlt HM.out, by simp [intOf]; omega⟩
                          exact AllLate.nil
                        exact AllLate.nil
                      exact AllLate.nil
                    exact AllLate.nil
                  exact AllLate.nil
                exact AllLate.nil
              exact AllLate.nil
            refine AllLate.cons rfl (fun K hK => ?_) ?_
            ·
              go_simp
              have N3 := M.new 4 #[.bool false]
              try simp only [size_alloc] at N3
              replace M := M.alloc (.cells #[.bool false] 4)
              try replace N1 := N1.alloc (.cells #[.bool false] 4)
              try replace N2 := N2.alloc (.cells #[.bool false] 4)
              refine hK.out _ _ (fun _ => M.S) ?_
              try simp only [Act.put, List.setIfInBounds_toArray, List.set_cons_zero, List.set_cons_succ]
              refine AnyLate.ready (rs := [14]) (by kernel_rfl) (by simp) ?_
              refine AllLate.cons rfl (fun K hK => ?_) ?_
              ·
                go_simp
                go_at_call 47
                refine (rblank_any _).mono ?_
                rintro e w1 ⟨rfl, hb⟩
                replace M := M.below hb
                try replace N3 := N3.fr (Fr.of_below hb (fun _ => False)) (fun h => h)
                clear hb
                refine hK.out _ _ (fun _ => M.S) ?_
                try simp only [Act.put, List.setIfInBounds_toArray, List.set_cons_zero, List.set_cons_succ]
                refine AnyLate.ready (rs := [15]) (by kernel_rfl) (by simp) ?_
                refine AllLate.cons rfl (fun K hK => ?_) ?_
                ·
                  go_simp
                  have N2 := M.new 9 #[.string (strOfNums zl)]
                  try simp only [size_alloc] at N2
                  replace M := M.alloc (.cells #[.string (strOfNums zl)] 9)
                  try replace N3 := N3.alloc (.cells #[.string (strOfNums zl)] 9)
                  refine hK.out _ _ (fun _ => M.S) ?_
                  try simp only [Act.put, List.setIfInBounds_toArray, List.set_cons_zero, List.set_cons_succ]
                  refine AnyLate.ready (rs := [16]) (by kernel_rfl) (by simp) ?_
                  refine AllLate.cons rfl (fun K hK => ?_) ?_
                  ·
                    refine step_ap w.heap.size rfl (.tmp 31) (.tmp 33) 46 9 (.string ⟨#[]⟩) 1 16 rfl Try.underlying46 Try.infoS rfl (by omega) tv k _ (by rfl) M.o2 _ 1 1 [.string (strOfNums zl)] (by rfl) rfl (fun _ => ⟨_, rfl, blk_one N2⟩) (by simp [Value.oneCell']) (by omega) (by omega) M.up ?_
                    intro v2 w1 ho hg hat
                    obtain ⟨g2, kv2, rfl, _⟩ := own_form ho (by omega)
                    try replace N3 := N3.grown hg (fun e => own_row_type M.o2 N3 (by decide) _ e.symm rfl)
                    replace M := M.app2 ho hg hat
                    clear ho hg hat N2
                    refine hK.out _ _ (fun _ => M.S) ?_
                    try simp only [Act.put, List.setIfInBounds_toArray, List.set_cons_zero, List.set_cons_succ]
                    refine AnyLate.ready (rs := [22]) (by kernel_rfl) (by simp) ?_
                    refine AllLate.cons rfl (fun K hK => ?_) ?_
                    ·
                      refine step_ap w.heap.size rfl (.tmp 38) (.tmp 39) 37 4 (.bool false) 1 1 rfl Try.underlying37 Try.infoB rfl (by omega) wv k _ (by rfl) M.o3 _ 1 1 [.bool false] (by rfl) rfl (fun _ => ⟨_, rfl, blk_one N3⟩) (by simp [Value.oneCell']) (by omega) (by omega) M.up ?_
                      intro v3 w1 ho hg hat
                      obtain ⟨g3, kv3, rfl, _⟩ := own_form ho (by omega)
                      replace M := M.app3 ho hg
                      clear ho hg hat N3
                      refine hK.out _ _ (fun _ => M.S) ?_
                      try simp only [Act.put, List.setIfInBounds_toArray, List.set_cons_zero, List.set_cons_succ]
                      refine AnyLate.take (i := 23) (v := ?_) rfl (by kernel_rfl) (by kernel_rfl) (by kernel_rfl) (by kernel_rfl) (fun _ _ _ h => h) (Or.inl ⟨by rfl, ?_⟩) (fun _ => M.S) ?_; rotate_left
                      · intro wS hSw; first | (go_simp; done) | (go_simp; with_reducible rfl)
                      try simp only [Act.put, List.setIfInBounds_toArray, List.set_cons_zero, List.set_cons_succ]
                      refine AnyLate.take (i := 24) (v := ?_) rfl (by kernel_rfl) (by kernel_rfl) (by kernel_rfl) (by kernel_rfl) (fun _ _ _ h => h) (Or.inl ⟨by rfl, ?_⟩) (fun _ => M.S) ?_; rotate_left
                      · intro wS hSw; first | (go_simp; done) | (go_simp; with_reducible rfl)
                      try simp only [Act.put, List.setIfInBounds_toArray, List.set_cons_zero, List.set_cons_succ]
                      refine AnyLate.ready (rs := [25]) (by kernel_rfl) (by simp) ?_
                      refine AllLate.cons rfl (fun K hK => ?_) ?_
                      ·
                        have c0 := M.blk.cell 0 _ rfl
                        have f0 := M.blk.free 0
                        go_simp
                        replace M := M.cell 0 (.slice (some ⟨g1, 0, none⟩) (k + 1) kv1) _ _ _ _ _ _ rfl
                        clear c0 f0
                        refine hK.out _ _ (fun h => absurd h (by decide)) ?_
                        try simp only [Act.put, List.setIfInBounds_toArray, List.set_cons_zero, List.set_cons_succ]
                        refine AnyLate.take (i := 26) (v := ?_) rfl (by kernel_rfl) (by kernel_rfl) (by kernel_rfl) (by kernel_rfl) (fun _ _ _ h => h) (Or.inl ⟨by rfl, ?_⟩) (fun h => absurd h (by decide)) ?_; rotate_left
                        · intro wS hSw; first | (go_simp; done) | (go_simp; with_reducible rfl)
                        try simp only [Act.put, List.setIfInBounds_toArray, List.set_cons_zero, List.set_cons_succ]
                        refine AnyLate.take (i := 27) (v := ?_) rfl (by kernel_rfl) (by kernel_rfl) (by kernel_rfl) (by kernel_rfl) (fun _ _ _ h => h) (Or.inl ⟨by rfl, ?_⟩) (fun h => absurd h (by decide)) ?_; rotate_left
                        · intro wS hSw; first | (go_simp; done) | (go_simp; with_reducible rfl)
                        try simp only [Act.put, List.setIfInBounds_toArray, List.set_cons_zero, List.set_cons_succ]
                        refine AnyLate.ready (rs := [28]) (by kernel_rfl) (by simp) ?_
                        refine AllLate.cons rfl (fun K hK => ?_) ?_
                        ·
                          have c0 := M.blk.cell 1 _ rfl
                          have f0 := M.blk.free 1
                          go_simp
                          replace M := M.cell 1 (.slice (some ⟨g2, 0, none⟩) (k + 1) kv2) _ _ _ _ _ _ rfl
                          clear c0 f0
                          refine hK.out _ _ (fun h => absurd h (by decide)) ?_
                          try simp only [Act.put, List.setIfInBounds_toArray, List.set_cons_zero, List.set_cons_succ]
                          refine AnyLate.take (i := 29) (v := ?_) rfl (by kernel_rfl) (by kernel_rfl) (by kernel_rfl) (by kernel_rfl) (fun _ _ _ h => h) (Or.inl ⟨by rfl, ?_⟩) (fun h => absurd h (by decide)) ?_; rotate_left
                          · intro wS hSw; first | (go_simp; done) | (go_simp; with_reducible rfl)
                          try simp only [Act.put, List.setIfInBounds_toArray, List.set_cons_zero, List.set_cons_succ]
                          refine AnyLate.take (i := 30) (v := ?_) rfl (by kernel_rfl) (by kernel_rfl) (by kernel_rfl) (by kernel_rfl) (fun _ _ _ h => h) (Or.inl ⟨by rfl, ?_⟩) (fun h => absurd h (by decide)) ?_; rotate_left
                          · intro wS hSw; first | (go_simp; done) | (go_simp; with_reducible rfl)
                          try simp only [Act.put, List.setIfInBounds_toArray, List.set_cons_zero, List.set_cons_succ]
                          refine AnyLate.ready (rs := [31]) (by kernel_rfl) (by simp) ?_
                          refine AllLate.cons rfl (fun K hK => ?_) ?_
                          ·
                            have c0 := M.blk.cell 2 _ rfl
                            have f0 := M.blk.free 2
                            go_simp
                            replace M := M.cell 2 (.slice (some ⟨g3, 0, none⟩) (k + 1) kv3) _ _ _ _ _ _ rfl
                            clear c0 f0
                            refine hK.out _ _ (fun h => absurd h (by decide)) ?_
                            try simp only [Act.put, List.setIfInBounds_toArray, List.set_cons_zero, List.set_cons_succ]
                            refine AnyLate.done (by kernel_rfl) ?_ _
                            have HM := Lib.hid M
                            clear M
                            go_wp2
                            exact ⟨rnew_next hlt HM.out, by simp [intOf]; omega⟩
                          exact AllLate.nil
                        exact AllLate.nil
                      exact AllLate.nil
                    exact AllLate.nil
                  exact AllLate.nil
                exact AllLate.nil
              exact AllLate.nil
            exact AllLate.nil
          refine AllLate.cons rfl (fun K hK => ?_) ?_
          ·
            go_simp
            have N3 := M.new 4 #[.bool false]
            try simp only [size_alloc] at N3
            replace M := M.alloc (.cells #[.bool false] 4)
            try replace N1 := N1.alloc (.cells #[.bool false] 4)
            try replace N2 := N2.alloc (.cells #[.bool false] 4)
            refine hK.out _ _ (fun _ => M.S) ?_
            try simp only [Act.put, List.setIfInBounds_toArray, List.set_cons_zero, List.set_cons_succ]
            refine AnyLate.ready (rs := [9]) (by kernel_rfl) (by simp) ?_
            refine AllLate.cons rfl (fun K hK => ?_) ?_
            ·
              refine step_ap w.heap.size rfl (.tmp 24) (.tmp 26) 46 9 (.string ⟨#[]⟩) 1 16 rfl Try.underlying46 Try.infoS rfl (by omega) pv k _ (by rfl) M.o1 _ 1 1 [.string (strOfNums zl)] (by rfl) rfl (fun _ => ⟨_, rfl, blk_one N1⟩) (by simp [Value.oneCell']) (by omega) (by omega) M.up ?_
              intro v1 w1 ho hg hat
              obtain ⟨g1, kv1, rfl, _⟩ := own_form ho (by omega)
              try replace N3 := N3.grown hg (fun e => own_row_type M.o1 N3 (by decide) _ e.symm rfl)
              replace M := M.app1 ho hg hat
              clear ho hg hat N1
              refine hK.out _ _ (fun _ => M.S) ?_
              try simp only [Act.put, List.setIfInBounds_toArray, List.set_cons_zero, List.set_cons_succ]
              refine AnyLate.ready (rs := [14]) (by kernel_rfl) (by simp) ?_
              refine AllLate.cons rfl (fun K hK => ?_) ?_
              ·
                go_simp
                go_at_call 47
                refine (rblank_any _).mono ?_
                rintro e w1 ⟨rfl, hb⟩
                replace M := M.below hb
                try replace N3 := N3.fr (Fr.of_below hb (fun _ => False)) (fun h => h)
                clear hb
                refine hK.out _ _ (fun _ => M.S) ?_
                try simp only [Act.put, List.setIfInBounds_toArray, List.set_cons_zero, List.set_cons_succ]
                refine AnyLate.ready (rs := [15]) (by kernel_rfl) (by simp) ?_
                refine AllLate.cons rfl (fun K hK => ?_) ?_
                ·
                  go_simp
                  have N2 := M.new 9 #[.string (strOfNums zl)]
                  try simp only [size_alloc] at N2
                  replace M := M.alloc (.cells #[.string (strOfNums zl)] 9)
                  try replace N3 := N3.alloc (.cells #[.string (strOfNums zl)] 9)
                  refine hK.out _ _ (fun _ => M.S) ?_
                  try simp only [Act.put, List.setIfInBounds_toArray, List.set_cons_zero, List.set_cons_succ]
                  refine AnyLate.ready (rs := [16]) (by kernel_rfl) (by simp) ?_
                  refine AllLate.cons rfl (fun K hK => ?_) ?_
                  ·
                    refine step_ap w.heap.size rfl (.tmp 31) (.tmp 33) 46 9 (.string ⟨#[]⟩) 1 16 rfl Try.underlying46 Try.infoS rfl (by omega) tv k _ (by rfl) M.o2 _ 1 1 [.string (strOfNums zl)] (by rfl) rfl (fun _ => ⟨_, rfl, blk_one N2⟩) (by simp [Value.oneCell']) (by omega) (by omega) M.up ?_
                    intro v2 w1 ho hg hat
                    obtain ⟨g2, kv2, rfl, _⟩ := own_form ho (by omega)
                    try replace N3 := N3.grown hg (fun e => own_row_type M.o2 N3 (by decide) _ e.symm rfl)
                    replace M := M.app2 ho hg hat
                    clear ho hg hat N2
                    refine hK.out _ _ (fun _ => M.S) ?_
                    try simp only [Act.put, List.setIfInBounds_toArray, List.set_cons_zero, List.set_cons_succ]
                    refine AnyLate.ready (rs := [22]) (by kernel_rfl) (by simp) ?_
                    refine AllLate.cons rfl (fun K hK => ?_) ?_
                    ·
                      refine step_ap w.heap.size rfl (.tmp 38) (.tmp 39) 37 4 (.bool false) 1 1 rfl Try.underlying37 Try.infoB rfl (by omega) wv k _ (by rfl) M.o3 _ 1 1 [.bool false] (by rfl) rfl (fun _ => ⟨_, rfl, blk_one N3⟩) (by simp [Value.oneCell']) (by omega) (by omega) M.up ?_
                      intro v3 w1 ho hg hat
                      obtain ⟨g3, kv3, rfl, _⟩ := own_form ho (by omega)
                      replace M := M.app3 ho hg
                      clear ho hg hat N3
                      refine hK.out _ _ (fun _ => M.S) ?_
                      try simp only [Act.put, List.setIfInBounds_toArray, List.set_cons_zero, List.set_cons_succ]
                      refine AnyLate.take (i := 23) (v := ?_) rfl (by kernel_rfl) (by kernel_rfl) (by kernel_rfl) (by kernel_rfl) (fun _ _ _ h => h) (Or.inl ⟨by rfl, ?_⟩) (fun _ => M.S) ?_; rotate_left
                      · intro wS hSw; first | (go_simp; done) | (go_simp; with_reducible rfl)
                      try simp only [Act.put, List.setIfInBounds_toArray, List.set_cons_zero, List.set_cons_succ]
                      refine AnyLate.take (i := 24) (v := ?_) rfl (by kernel_rfl) (by kernel_rfl) (by kernel_rfl) (by kernel_rfl) (fun _ _ _ h => h) (Or.inl ⟨by rfl, ?_⟩) (fun _ => M.S) ?_; rotate_left
                      · intro wS hSw; first | (go_simp; done) | (go_simp; with_reducible rfl)
                      try simp only [Act.put, List.setIfInBounds_toArray, List.set_cons_zero, List.set_cons_succ]
                      refine AnyLate.ready (rs := [25]) (by kernel_rfl) (by simp) ?_
                      refine AllLate.cons rfl (fun K hK => ?_) ?_
                      ·
                        have c0 := M.blk.cell 0 _ rfl
                        have f0 := M.blk.free 0
                        go_simp
                        replace M := M.cell 0 (.slice (some ⟨g1, 0, none⟩) (k + 1) kv1) _ _ _ _ _ _ rfl
                        clear c0 f0
                        refine hK.out _ _ (fun h => absurd h (by decide)) ?_
                        try simp only [Act.put, List.setIfInBounds_toArray, List.set_cons_zero, List.set_cons_succ]
                        refine AnyLate.take (i := 26) (v := ?_) rfl (by kernel_rfl) (by kernel_rfl) (by kernel_rfl) (by kernel_rfl) (fun _ _ _ h => h) (Or.inl ⟨by rfl, ?_⟩) (fun h => absurd h (by decide)) ?_; rotate_left
                        · intro wS hSw; first | (go_simp; done) | (go_simp; with_reducible rfl)
                        try simp only [Act.put, List.setIfInBounds_toArray, List.set_cons_zero, List.set_cons_succ]
                        refine AnyLate.take (i := 27) (v := ?_) rfl (by kernel_rfl) (by kernel_rfl) (by kernel_rfl) (by kernel_rfl) (fun _ _ _ h => h) (Or.inl ⟨by rfl, ?_⟩) (fun h => absurd h (by decide)) ?_; rotate_left
                        · intro wS hSw; first | (go_simp; done) | (go_simp; with_reducible rfl)
                        try simp only [Act.put, List.setIfInBounds_toArray, List.set_cons_zero, List.set_cons_succ]
                        refine AnyLate.ready (rs := [28]) (by kernel_rfl) (by simp) ?_
                        refine AllLate.cons rfl (fun K hK => ?_) ?_
                        ·
                          have c0 := M.blk.cell 1 _ rfl
                          have f0 := M.blk.free 1
                          go_simp
                          replace M := M.cell 1 (.slice (some ⟨g2, 0, none⟩) (k + 1) kv2) _ _ _ _ _ _ rfl
                          clear c0 f0
                          refine hK.out _ _ (fun h => absurd h (by decide)) ?_
                          try simp only [Act.put, List.setIfInBounds_toArray, List.set_cons_zero, List.set_cons_succ]
                          refine AnyLate.take (i := 29) (v := ?_) rfl (by kernel_rfl) (by kernel_rfl) (by kernel_rfl) (by kernel_rfl) (fun _ _ _ h => h) (Or.inl ⟨by rfl, ?_⟩) (fun h => absurd h (by decide)) ?_; rotate_left
                          · intro wS hSw; first | (go_simp; done) | (go_simp; with_reducible rfl)
                          try simp only [Act.put, List.setIfInBounds_toArray, List.set_cons_zero, List.set_cons_succ]
                          refine AnyLate.take (i := 30) (v := ?_) rfl (by kernel_rfl) (by kernel_rfl) (by kernel_rfl) (by kernel_rfl) (fun _ _ _ h => h) (Or.inl ⟨by rfl, ?_⟩) (fun h => absurd h (by decide)) ?_; rotate_left
                          · intro wS hSw; first | (go_simp; done) | (go_simp; with_reducible rfl)
                          try simp only [Act.put, List.setIfInBounds_toArray, List.set_cons_zero, List.set_cons_succ]
                          refine AnyLate.ready (rs := [31]) (by kernel_rfl) (by simp) ?_
                          refine AllLate.cons rfl (fun K hK => ?_) ?_
                          ·
                            have c0 := M.blk.cell 2 _ rfl
                            have f0 := M.blk.free 2
                            go_simp
                            replace M := M.cell 2 (.slice (some ⟨g3, 0, none⟩) (k + 1) kv3) _ _ _ _ _ _ rfl
                            clear c0 f0
                            refine hK.out _ _ (fun h => absurd h (by decide)) ?_
                            try simp only [Act.put, List.setIfInBounds_toArray, List.set_cons_zero, List.set_cons_succ]
                            refine AnyLate.done (by kernel_rfl) ?_ _
                            have HM := Lib.hid M
                            clear M
                            go_wp2
                            exact ⟨rnew_next hlt HM.out, by simp [intOf]; omega⟩
                          exact AllLate.nil
                        exact AllLate.nil
                      exact AllLate.nil
                    exact AllLate.nil
                  exact AllLate.nil
                exact AllLate.nil
              exact AllLate.nil
            exact AllLate.nil
          exact AllLate.nil
        refine AllLate.cons rfl (fun K hK => ?_) ?_
        ·
          go_simp
          have N3 := M.new 4 #[.bool false]
          try simp only [size_alloc] at N3
          replace M := M.alloc (.cells #[.bool false] 4)
          try replace N1 := N1.alloc (.cells #[.bool false] 4)
          try replace N2 := N2.alloc (.cells #[.bool false] 4)
          refine hK.out _ _ (fun _ => M.S) ?_
          try simp only [Act.put, List.setIfInBounds_toArray, List.set_cons_zero, List.set_cons_succ]
          refine AnyLate.ready (rs := [8]) (by kernel_rfl) (by simp) ?_
          refine AllLate.cons rfl (fun K hK => ?_) ?_
          ·
            go_simp
            have N1 := M.new 9 #[.string (strOfNums zl)]
            try simp only [size_alloc] at N1
            replace M := M.alloc (.cells #[.string (strOfNums zl)] 9)
            try replace N3 := N3.alloc (.cells #[.string (strOfNums zl)] 9)
            refine hK.out _ _ (fun _ => M.S) ?_
            try simp only [Act.put, List.setIfInBounds_toArray, List.set_cons_zero, List.set_cons_succ]
            refine AnyLate.ready (rs := [9]) (by kernel_rfl) (by simp) ?_
            refine AllLate.cons rfl (fun K hK => ?_) ?_
            ·
              refine step_ap w.heap.size rfl (.tmp 24) (.tmp 26) 46 9 (.string ⟨#[]⟩) 1 16 rfl Try.underlying46 Try.infoS rfl (by omega) pv k _ (by rfl) M.o1 _ 1 1 [.string (strOfNums zl)] (by rfl) rfl (fun _ => ⟨_, rfl, blk_one N1⟩) (by simp [Value.oneCell']) (by omega) (by omega) M.up ?_
              intro v1 w1 ho hg hat
              obtain ⟨g1, kv1, rfl, _⟩ := own_form ho (by omega)
              try replace N3 := N3.grown hg (fun e => own_row_type M.o1 N3 (by decide) _ e.symm rfl)
              replace M := M.app1 ho hg hat
              clear ho hg hat N1
              refine hK.out _ _ (fun _ => M.S) ?_
              try simp only [Act.put, List.setIfInBounds_toArray, List.set_cons_zero, List.set_cons_succ]
              refine AnyLate.ready (rs := [14]) (by kernel_rfl) (by simp) ?_
              refine AllLate.cons rfl (fun K hK => ?_) ?_
              ·
                go_simp
                go_at_call 47
                refine (rblank_any _).mono ?_
                rintro e w1 ⟨rfl, hb⟩
                replace M := M.below hb
                try replace N3 := N3.fr (Fr.of_below hb (fun _ => False)) (fun h => h)
                clear hb
                refine hK.out _ _ (fun _ => M.S) ?_
                try simp only [Act.put, List.setIfInBounds_toArray, List.set_cons_zero, List.set_cons_succ]
                refine AnyLate.ready (rs := [15]) (by kernel_rfl) (by simp) ?_
                refine AllLate.cons rfl (fun K hK => ?_) ?_
                ·
                  go_simp
                  have N2 := M.new 9 #[.string (strOfNums zl)]
                  try simp only [size_alloc] at N2
                  replace M := M.alloc (.cells #[.string (strOfNums zl)] 9)
                  try replace N3 := N3.alloc (.cells #[.string (strOfNums zl)] 9)
                  refine hK.out _ _ (fun _ => M.S) ?_
                  try simp only [Act.put, List.setIfInBounds_toArray, List.set_cons_zero, List.set_cons_succ]
                  refine AnyLate.ready (rs := [16]) (by kernel_rfl) (by simp) ?_
                  refine AllLate.cons rfl (fun K hK => ?_) ?_
                  ·
                    refine step_ap w.heap.size rfl (.tmp 31) (.tmp 33) 46 9 (.string ⟨#[]⟩) 1 16 rfl Try.underlying46 Try.infoS rfl (by omega) tv k _ (by rfl) M.o2 _ 1 1 [.string (strOfNums zl)] (by rfl) rfl (fun _ => ⟨_, rfl, blk_one N2⟩) (by simp [Value.oneCell']) (by omega) (by omega) M.up ?_
                    intro v2 w1 ho hg hat
                    obtain ⟨g2, kv2, rfl, _⟩ := own_form ho (by omega)
                    try replace N3 := N3.grown hg (fun e => own_row_type M.o2 N3 (by decide) _ e.symm rfl)
                    replace M := M.app2 ho hg hat
                    clear ho hg hat N2
                    refine hK.out _ _ (fun _ => M.S) ?_
                    try simp only [Act.put, List.setIfInBounds_toArray, List.set_cons_zero, List.set_cons_succ]
                    refine AnyLate.ready (rs := [22]) (by kernel_rfl) (by simp) ?_
                    refine AllLate.cons rfl (fun K hK => ?_) ?_
                    ·
                      refine step_ap w.heap.size rfl (.tmp 38) (.tmp 39) 37 4 (.bool false) 1 1 rfl Try.underlying37 Try.infoB rfl (by omega) wv k _ (by rfl) M.o3 _ 1 1 [.bool false] (by rfl) rfl (fun _ => ⟨_, rfl, blk_one N3⟩) (by simp [Value.oneCell']) (by omega) (by omega) M.up ?_
                      intro v3 w1 ho hg hat
                      obtain ⟨g3, kv3, rfl, _⟩ := own_form ho (by omega)
                      replace M := M.app3 ho hg
                      clear ho hg hat N3
                      refine hK.out _ _ (fun _ => M.S) ?_
                      try simp only [Act.put, List.setIfInBounds_toArray, List.set_cons_zero, List.set_cons_succ]
                      refine AnyLate.take (i := 23) (v := ?_) rfl (by kernel_rfl) (by kernel_rfl) (by kernel_rfl) (by kernel_rfl) (fun _ _ _ h => h) (Or.inl ⟨by rfl, ?_⟩) (fun _ => M.S) ?_; rotate_left
                      · intro wS hSw; first | (go_simp; done) | (go_simp; with_reducible rfl)
                      try simp only [Act.put, List.setIfInBounds_toArray, List.set_cons_zero, List.set_cons_succ]
                      refine AnyLate.take (i := 24) (v := ?_) rfl (by kernel_rfl) (by kernel_rfl) (by kernel_rfl) (by kernel_rfl) (fun _ _ _ h => h) (Or.inl ⟨by rfl, ?_⟩) (fun _ => M.S) ?_; rotate_left
                      · intro wS hSw; first | (go_simp; done) | (go_simp; with_reducible rfl)
                      try simp only [Act.put, List.setIfInBounds_toArray, List.set_cons_zero, List.set_cons_succ]
                      refine AnyLate.ready (rs := [25]) (by kernel_rfl) (by simp) ?_
                      refine AllLate.cons rfl (fun K hK => ?_) ?_
                      ·
                        have c0 := M.blk.cell 0 _ rfl
                        have f0 := M.blk.free 0
                        go_simp
                        replace M := M.cell 0 (.slice (some ⟨g1, 0, none⟩) (k + 1) kv1) _ _ _ _ _ _ rfl
                        clear c0 f0
                        refine hK.out _ _ (fun h => absurd h (by decide)) ?_
                        try simp only [Act.put, List.setIfInBounds_toArray, List.set_cons_zero, List.set_cons_succ]
                        refine AnyLate.take (i := 26) (v := ?_) rfl (by kernel_rfl) (by kernel_rfl) (by kernel_rfl) (by kernel_rfl) (fun _ _ _ h => h) (Or.inl ⟨by rfl, ?_⟩) (fun h => absurd h (by decide)) ?_; rotate_left
                        · intro wS hSw; first | (go_simp; done) | (go_simp; with_reducible rfl)
                        try simp only [Act.put, List.setIfInBounds_toArray, List.set_cons_zero, List.set_cons_succ]
                        refine AnyLate.take (i := 27) (v := ?_) rfl (by kernel_rfl) (by kernel_rfl) (by kernel_rfl) (by kernel_rfl) (fun _ _ _ h => h) (Or.inl ⟨by rfl, ?_⟩) (fun h => absurd h (by decide)) ?_; rotate_left
                        · intro wS hSw; first | (go_simp; done) | (go_simp; with_reducible rfl)
                        try simp only [Act.put, List.setIfInBounds_toArray, List.set_cons_zero, List.set_cons_succ]
                        refine AnyLate.ready (rs := [28]) (by kernel_rfl) (by simp) ?_
                        refine AllLate.cons rfl (fun K hK => ?_) ?_
                        ·
                          have c0 := M.blk.cell 1 _ rfl
                          have f0 := M.blk.free 1
                          go_simp
                          replace M := M.cell 1 (.slice (some ⟨g2, 0, none⟩) (k + 1) kv2) _ _ _ _ _ _ rfl
                          clear c0 f0
                          refine hK.out _ _ (fun h => absurd h (by decide)) ?_
                          try simp only [Act.put, List.setIfInBounds_toArray, List.set_cons_zero, List.set_cons_succ]
                          refine AnyLate.take (i := 29) (v := ?_) rfl (by kernel_rfl) (by kernel_rfl) (by kernel_rfl) (by kernel_rfl) (fun _ _ _ h => h) (Or.inl ⟨by rfl, ?_⟩) (fun h => absurd h (by decide)) ?_; rotate_left
                          · intro wS hSw; first | (go_simp; done) | (go_simp; with_reducible rfl)
                          try simp only [Act.put, List.setIfInBounds_toArray, List.set_cons_zero, List.set_cons_succ]
                          refine AnyLate.take (i := 30) (v := ?_) rfl (by kernel_rfl) (by kernel_rfl) (by kernel_rfl) (by kernel_rfl) (fun _ _ _ h => h) (Or.inl ⟨by rfl, ?_⟩) (fun h => absurd h (by decide)) ?_; rotate_left
                          · intro wS hSw; first | (go_simp; done) | (go_simp; with_reducible rfl)
                          try simp only [Act.put, List.setIfInBounds_toArray, List.set_cons_zero, List.set_cons_succ]
                          refine AnyLate.ready (rs := [31]) (by kernel_rfl) (by simp) ?_
                          refine AllLate.cons rfl (fun K hK => ?_) ?_
                          ·
                            have c0 := M.blk.cell 2 _ rfl
                            have f0 := M.blk.free 2
                            go_simp
                            replace M := M.cell 2 (.slice (some ⟨g3, 0, none⟩) (k + 1) kv3) _ _ _ _ _ _ rfl
                            clear c0 f0
                            refine hK.out _ _ (fun h => absurd h (by decide)) ?_
                            try simp only [Act.put, List.setIfInBounds_toArray, List.set_cons_zero, List.set_cons_succ]
                            refine AnyLate.done (by kernel_rfl) ?_ _
                            have HM := Lib.hid M
                            clear M
                            go_wp2
                            exact ⟨rnew_next hlt HM.out, by simp [intOf]; omega⟩
                          exact AllLate.nil
                        exact AllLate.nil
                      exact AllLate.nil
                    exact AllLate.nil
                  exact AllLate.nil
                exact AllLate.nil
              exact AllLate.nil
            exact AllLate.nil
          exact AllLate.nil
        exact AllLate.nil
      refine AllLate.cons rfl (fun K hK => ?_) ?_
      ·
        go_simp
        have N3 := M.new 4 #[.bool false]
        try simp only [size_alloc] at N3
        replace M := M.alloc (.cells #[.bool false] 4)
        try replace N1 := N1.alloc (.cells #[.bool false] 4)
        try replace N2 := N2.alloc (.cells #[.bool false] 4)
        refine hK.out _ _ (fun _ => M.S) ?_
        try simp only [Act.put, List.setIfInBounds_toArray, List.set_cons_zero, List.set_cons_succ]
        refine AnyLate.ready (rs := [7]) (by kernel_rfl) (by simp) ?_
        refine AllLate.cons rfl (fun K hK => ?_) ?_
        ·
          go_simp
          go_at_call 47
          refine (rblank_any _).mono ?_
          rintro e w1 ⟨rfl, hb⟩
          replace M := M.below hb
          try replace N3 := N3.fr (Fr.of_below hb (fun _ => False)) (fun h => h)
          clear hb
          refine hK.out _ _ (fun _ => M.S) ?_
          try simp only [Act.put, List.setIfInBounds_toArray, List.set_cons_zero, List.set_cons_succ]
          refine AnyLate.ready (rs := [8]) (by kernel_rfl) (by simp) ?_
          refine AllLate.cons rfl (fun K hK => ?_) ?_
          ·
            go_simp
            have N1 := M.new 9 #[.string (strOfNums zl)]
            try simp only [size_alloc] at N1
            replace M := M.alloc (.cells #[.string (strOfNums zl)] 9)
            try replace N3 := N3.alloc (.cells #[.string (strOfNums zl)] 9)
            refine hK.out _ _ (fun _ => M.S) ?_
            try simp only [Act.put, List.setIfInBounds_toArray, List.set_cons_zero, List.set_cons_succ]
            refine AnyLate.ready (rs := [9]) (by kernel_rfl) (by simp) ?_
            refine AllLate.cons rfl (fun K hK => ?_) ?_
            ·
              refine step_ap w.heap.size rfl (.tmp 24) (.tmp 26) 46 9 (.string ⟨#[]⟩) 1 16 rfl Try.underlying46 Try.infoS rfl (by omega) pv k _ (by rfl) M.o1 _ 1 1 [.string (strOfNums zl)] (by rfl) rfl (fun _ => ⟨_, rfl, blk_one N1⟩) (by simp [Value.oneCell']) (by omega) (by omega) M.up ?_
              intro v1 w1 ho hg hat
              obtain ⟨g1, kv1, rfl, _⟩ := own_form ho (by omega)
              try replace N3 := N3.grown hg (fun e => own_row_type M.o1 N3 (by decide) _ e.symm rfl)
              replace M := M.app1 ho hg hat
              clear ho hg hat N1
              refine hK.out _ _ (fun _ => M.S) ?_
              try simp only [Act.put, List.setIfInBounds_toArray, List.set_cons_zero, List.set_cons_succ]
              refine AnyLate.ready (rs := [14]) (by kernel_rfl) (by simp) ?_
              refine AllLate.cons rfl (fun K hK => ?_) ?_
              ·
                go_simp
                go_at_call 47
                refine (rblank_any _).mono ?_
                rintro e w1 ⟨rfl, hb⟩
                replace M := M.below hb
                try replace N3 := N3.fr (Fr.of_below hb (fun _ => False)) (fun h => h)
                clear hb
                refine hK.out _ _ (fun _ => M.S) ?_
                try simp only [Act.put, List.setIfInBounds_toArray, List.set_cons_zero, List.set_cons_succ]
                refine AnyLate.ready (rs := [15]) (by kernel_rfl) (by simp) ?_
                refine AllLate.cons rfl (fun K hK => ?_) ?_
                ·
                  go_simp
                  have N2 := M.new 9 #[.string (strOfNums zl)]
                  try simp only [size_alloc] at N2
                  replace M := M.alloc (.cells #[.string (strOfNums zl)] 9)
                  try replace N3 := N3.alloc (.cells #[.string (strOfNums zl)] 9)
                  refine hK.out _ _ (fun _ => M.S) ?_
                  try simp only [Act.put, List.setIfInBounds_toArray, List.set_cons_zero, List.set_cons_succ]
                  refine AnyLate.ready (rs := [16]) (by kernel_rfl) (by simp) ?_
                  refine AllLate.cons rfl (fun K hK => ?_) ?_
                  ·
                    refine step_ap w.heap.size rfl (.tmp 31) (.tmp 33) 46 9 (.string ⟨#[]⟩) 1 16 rfl Try.underlying46 Try.infoS rfl (by omega) tv k _ (by rfl) M.o2 _ 1 1 [.string (strOfNums zl)] (by rfl) rfl (fun _ => ⟨_, rfl, blk_one N2⟩) (by simp [Value.oneCell']) (by omega) (by omega) M.up ?_
                    intro v2 w1 ho hg hat
                    obtain ⟨g2, kv2, rfl, _⟩ := own_form ho (by omega)
                    try replace N3 := N3.grown hg (fun e => own_row_type M.o2 N3 (by decide) _ e.symm rfl)
                    replace M := M.app2 ho hg hat
                    clear ho hg hat N2
                    refine hK.out _ _ (fun _ => M.S) ?_
                    try simp only [Act.put, List.setIfInBounds_toArray, List.set_cons_zero, List.set_cons_succ]
                    refine AnyLate.ready (rs := [22]) (by kernel_rfl) (by simp) ?_
                    refine AllLate.cons rfl (fun K hK => ?_) ?_
                    ·
                      refine step_ap w.heap.size rfl (.tmp 38) (.tmp 39) 37 4 (.bool false) 1 1 rfl Try.underlying37 Try.infoB rfl (by omega) wv k _ (by rfl) M.o3 _ 1 1 [.bool false] (by rfl) rfl (fun _ => ⟨_, rfl, blk_one N3⟩) (by simp [Value.oneCell']) (by omega) (by omega) M.up ?_
                      intro v3 w1 ho hg hat
                      obtain ⟨g3, kv3, rfl, _⟩ := own_form ho (by omega)
                      replace M := M.app3 ho hg
                      clear ho hg hat N3
                      refine hK.out _ _ (fun _ => M.S) ?_
                      try simp only [Act.put, List.setIfInBounds_toArray, List.set_cons_zero, List.set_cons_succ]
                      refine AnyLate.take (i := 23) (v := ?_) rfl (by kernel_rfl) (by kernel_rfl) (by kernel_rfl) (by kernel_rfl) (fun _ _ _ h => h) (Or.inl ⟨by rfl, ?_⟩) (fun _ => M.S) ?_; rotate_left
                      · intro wS hSw; first | (go_simp; done) | (go_simp; with_reducible rfl)
                      try simp only [Act.put, List.setIfInBounds_toArray, List.set_cons_zero, List.set_cons_succ]
                      refine AnyLate.take (i := 24) (v := ?_) rfl (by kernel_rfl) (by kernel_rfl) (by kernel_rfl) (by kernel_rfl) (fun _ _ _ h => h) (Or.inl ⟨by rfl, ?_⟩) (fun _ => M.S) ?_; rotate_left
                      · intro wS hSw; first | (go_simp; done) | (go_simp; with_reducible rfl)
                      try simp only [Act.put, List.setIfInBounds_toArray, List.set_cons_zero, List.set_cons_succ]
                      refine AnyLate.ready (rs := [25]) (by kernel_rfl) (by simp) ?_
                      refine AllLate.cons rfl (fun K hK => ?_) ?_
                      ·
                        have c0 := M.blk.cell 0 _ rfl
                        have f0 := M.blk.free 0
                        go_simp
                        replace M := M.cell 0 (.slice (some ⟨g1, 0, none⟩) (k + 1) kv1) _ _ _ _ _ _ rfl
                        clear c0 f0
                        refine hK.out _ _ (fun h => absurd h (by decide)) ?_
                        try simp only [Act.put, List.setIfInBounds_toArray, List.set_cons_zero, List.set_cons_succ]
                        refine AnyLate.take (i := 26) (v := ?_) rfl (by kernel_rfl) (by kernel_rfl) (by kernel_rfl) (by kernel_rfl) (fun _ _ _ h => h) (Or.inl ⟨by rfl, ?_⟩) (fun h => absurd h (by decide)) ?_; rotate_left
                        · intro wS hSw; first | (go_simp; done) | (go_simp; with_reducible rfl)
                        try simp only [Act.put, List.setIfInBounds_toArray, List.set_cons_zero, List.set_cons_succ]
                        refine AnyLate.take (i := 27) (v := ?_) rfl (by kernel_rfl) (by kernel_rfl) (by kernel_rfl) (by kernel_rfl) (fun _ _ _ h => h) (Or.inl ⟨by rfl, ?_⟩) (fun h => absurd h (by decide)) ?_; rotate_left
                        · intro wS hSw; first | (go_simp; done) | (go_simp; with_reducible rfl)
                        try simp only [Act.put, List.setIfInBounds_toArray, List.set_cons_zero, List.set_cons_succ]
                        refine AnyLate.ready (rs := [28]) (by kernel_rfl) (by simp) ?_
                        refine AllLate.cons rfl (fun K hK => ?_) ?_
                        ·
                          have c0 := M.blk.cell 1 _ rfl
                          have f0 := M.blk.free 1
                          go_simp
                          replace M := M.cell 1 (.slice (some ⟨g2, 0, none⟩) (k + 1) kv2) _ _ _ _ _ _ rfl
                          clear c0 f0
                          refine hK.out _ _ (fun h => absurd h (by decide)) ?_
                          try simp only [Act.put, List.setIfInBounds_toArray, List.set_cons_zero, List.set_cons_succ]
                          refine AnyLate.take (i := 29) (v := ?_) rfl (by kernel_rfl) (by kernel_rfl) (by kernel_rfl) (by kernel_rfl) (fun _ _ _ h => h) (Or.inl ⟨by rfl, ?_⟩) (fun h => absurd h (by decide)) ?_; rotate_left
                          · intro wS hSw; first | (go_simp; done) | (go_simp; with_reducible rfl)
                          try simp only [Act.put, List.setIfInBounds_toArray, List.set_cons_zero, List.set_cons_succ]
                          refine AnyLate.take (i := 30) (v := ?_) rfl (by kernel_rfl) (by kernel_rfl) (by kernel_rfl) (by kernel_rfl) (fun _ _ _ h => h) (Or.inl ⟨by rfl, ?_⟩) (fun h => absurd h (by decide)) ?_; rotate_left
                          · intro wS hSw; first | (go_simp; done) | (go_simp; with_reducible rfl)
                          try simp only [Act.put, List.setIfInBounds_toArray, List.set_cons_zero, List.set_cons_succ]
                          refine AnyLate.ready (rs := [31]) (by kernel_rfl) (by simp) ?_
                          refine AllLate.cons rfl (fun K hK => ?_) ?_
                          ·
                            have c0 := M.blk.cell 2 _ rfl
                            have f0 := M.blk.free 2
                            go_simp
                            replace M := M.cell 2 (.slice (some ⟨g3, 0, none⟩) (k + 1) kv3) _ _ _ _ _ _ rfl
                            clear c0 f0
                            refine hK.out _ _ (fun h => absurd h (by decide)) ?_
                            try simp only [Act.put, List.setIfInBounds_toArray, List.set_cons_zero, List.set_cons_succ]
                            refine AnyLate.done (by kernel_rfl) ?_ _
                            have HM := Lib.hid M
                            clear M
                            go_wp2
                            exact ⟨rnew_next hlt HM.out, by simp [intOf]; omega⟩
                          exact AllLate.nil
                        exact AllLate.nil
                      exact AllLate.nil
                    exact AllLate.nil
                  exact AllLate.nil
                exact AllLate.nil
              exact AllLate.nil
            exact AllLate.nil
          exact AllLate.nil
        exact AllLate.nil
      exact AllLate.nil
    · have hkn : k = n := by omega
      go_wp2
      go_ret
      exact rnew_end hkn h1 h2 HM.out
end Go.Proofs.Ytcapfahhoijblaa
