import Derived.Test.YtipfpckjgfjehaaF1
namespace Go.Proofs.Ytipfpckjgfjehaa
set_option linter.unusedVariables false
set_option linter.unusedSimpArgs false
open Go.RowKit PFlowMaxSpec Go.Proofs.YtipfpckjgfjehaaW.PrintWords
attribute [local go_sem] Oper.semAt_some

set_option maxHeartbeats 400000 in
theorem open1_calls (l bx bv xb c : Nat) (v : Int) (hv0 : 0 ≤ v) (hv : v < 64) (A : Option Addr) (xs : List Int) (J : Nat → World → Prop) (Jx : World → Prop) (W : World)
    (hlen : xs.length ≤ 2000)
    (hbx : W.cell? ⟨bx, 0, none⟩ = some (.pointer (some ⟨xb, 0, none⟩))) (hbv : W.cell? ⟨bv, 0, none⟩ = some (.int .i64 v))
    (hs : W.cell? ⟨xb, 1028 + v.toNat, none⟩ = some (.slice A xs.length c))
    (hd : ∀ n, J 0 (W.drewN n))
    (hstep : ∀ k W, J k W → k < xs.length → ∃ ad, A = some ad ∧ W.cell? ⟨bx, 0, none⟩ = some (.pointer (some ⟨xb, 0, none⟩)) ∧ W.cell? (ad.add k) = some (.int .i64 (xs.getD k 0)) ∧ 0 ≤ xs.getD k 0 ∧ xs.getD k 0 < 1024 ∧
      ∃ m, W.cell? ⟨xb, 4 + (xs.getD k 0).toNat, none⟩ = some (.int .i64 m) ∧
        (0 < m → ∀ n, YieldAt Fence.wide n Try.prog l #[.int .i64 (xs.getD k 0)] W fun e W' => (e = .returned (.bool true) ∧ J (k + 1) W') ∨ (e = .returned (.bool false) ∧ Jx W')) ∧
        (m ≤ 0 → J (k + 1) W)) :
    CallsIn Fence.wide 0 Try.prog 35 #[.func (.yield l) #[] #[], .pointer (some ⟨bx, 0, none⟩), .pointer (some ⟨bv, 0, none⟩)] W fun e W' => (∃ v, e = .returned v) ∧ (J xs.length W' ∨ Jx W') := by
  have H1 := Aside0.mk hstep
  have H2 := Aside0.mk hd
  clear hstep hd
  refine callsIn_of_wp Try.func35 rfl trivial ?_ rfl
  simp only [Try.ntmps35, List.size_toArray, List.length_cons, List.length_nil, Nat.reduceAdd, Nat.reduceSub, Array.replicate_succ, Array.replicate_zero, List.push_toArray, List.append_toArray, List.nil_append, List.cons_append]
  gi_wp2
  refine wpIn_wide.2 ?_
  go_quiet (fail)
  gi_wp2
  gi_loopw [13] (fun i wr => ∃ k : Nat, k ≤ xs.length ∧ i = .int .i64 k ∧ J k wr) (fun i wr => xs.length - (intOf i).toNat)
  case atStart => exact ⟨0, Nat.zero_le _, rfl, H2.out nq⟩
  case round =>
    obtain ⟨k, hk, rfl, hJ⟩ := hrel
    have HJ := Aside0.mk hJ
    clear hJ hbx hbv hs
    by_cases hlt : k < xs.length
    · obtain ⟨ad, hA, hbx, he, hi0, hi1, m, hm, hpos, hneg⟩ := H1.out k wr HJ.out hlt
      have H3 := Aside0.mk hpos
      have H4 := Aside0.mk hneg
      clear hpos hneg
      subst hA
      generalize hx : xs.getD k 0 = x at he hi0 hi1 hm H3
      by_cases hp : 0 < m
      · obtain ⟨fn, tmps, assign, body, hy, hR⟩ := H3.out hp 0
        gi_wp2
        refine ⟨rfl, hR.mono ?_⟩
        rintro e W' (⟨rfl, hJ'⟩ | ⟨rfl, hJx⟩)
        · have HJ' := Aside0.mk hJ'
          clear hJ'
          gi_wp2
          go_roundw
          case rel => exact ⟨k + 1, by omega, by go_num, HJ'.out⟩
          case measure => simp [intOf]; omega
        · have HJx := Aside0.mk hJx
          clear hJx
          gi_wp2
          refine bodyPost_ret (results_none rfl _ _ _) rfl ?_
          exact ⟨⟨_, rfl⟩, .inr HJx.out⟩
      · have hm0 : m ≤ 0 := by omega
        gi_wp2
        refine ⟨fun _ _ => trivial, ?_⟩
        gi_wp2
        go_roundw
        case rel => exact ⟨k + 1, by omega, by go_num, H4.out hm0⟩
        case measure => simp [intOf]; omega
    · gi_wp2
      go_end0
      exact ⟨⟨_, rfl⟩, .inl (by rw [show xs.length = k by omega]; exact HJ.out)⟩
end Go.Proofs.Ytipfpckjgfjehaa
