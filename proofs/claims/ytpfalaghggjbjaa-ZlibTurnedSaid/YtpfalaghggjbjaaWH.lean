/-
  The walk of deflate.length.
  Conditions: a length from 3 to 258.
-/
import Derived.Test.YtpfalaghggjbjaaWG
import Derived.Deep.CutRange
namespace Go.Proofs.Ytpfalaghggjbjaa
open Go.RowKit


set_option maxRecDepth 100000 in
set_option maxHeartbeats 4000000 in
theorem length_any (n : Nat) (h1 : 3 ≤ n) (h2 : n ≤ 258) (w : World) :
    Calls Try.prog 62 #[.int .i64 n] w fun e w' => e = .returned (.tuple #[.int .i64 (lsym n : Nat), .int .i64 (lbase (lsym n) : Nat), .int .i64 (lbits (lsym n) : Nat)]) ∧ ∃ m, w' = w.drewN m := by
  by_cases hA : n = 258
  · subst hA
    go_enter Try.func62, Try.ntmps62
    go_wp2
    go_ret3
    exact ⟨ret_int3 (by decide +kernel) (by decide +kernel) (by decide +kernel), 0, rfl⟩
  · have d1 : ((n : Int) == 258) = false := by simp; omega
    by_cases hB : n ≤ 10
    · have hs : lsym n = 254 + n := lsym_eq (by omega) (by omega) (by omega) (by unfold lbase; rw [if_neg (by omega), if_pos (by omega)]; omega) (.inr (by
        have hc : n = 3 ∨ n = 4 ∨ n = 5 ∨ n = 6 ∨ n = 7 ∨ n = 8 ∨ n = 9 ∨ n = 10 := by omega
        rcases hc with rfl | rfl | rfl | rfl | rfl | rfl | rfl | rfl <;> decide +kernel))
      have Hs := Lib.hid hs
      clear hs
      have d2 : decide ((n : Int) ≤ 10) = true := by simp; omega
      go_enter Try.func62, Try.ntmps62
      go_wp2
      go_ret3
      refine ⟨ret_int3 (by rw [Hs.out]; omega) ?_ ?_, 0, rfl⟩
      · rw [Hs.out]; unfold lbase; rw [if_neg (by omega), if_pos (by omega)]; omega
      · rw [Hs.out]; unfold lbits; rw [if_neg (by omega), if_pos (by omega)]; rfl
    · have d2 : decide ((n : Int) ≤ 10) = false := by simp; omega
      have hn1 : 11 ≤ n := by omega
      have hn2 : n ≤ 257 := by omega
      clear h1 h2 hA hB
      go_enter Try.func62, Try.ntmps62
      go_wp2
      go_loopw [2, 3, 4] (fun u v x wr => ∃ m, wr = w.drewN m ∧ ((u = .int .i64 265 ∧ v = .int .i64 11 ∧ x = .int .i64 1 ∧ 11 ≤ n) ∨ (u = .int .i64 269 ∧ v = .int .i64 19 ∧ x = .int .i64 2 ∧ 19 ≤ n) ∨ (u = .int .i64 273 ∧ v = .int .i64 35 ∧ x = .int .i64 3 ∧ 35 ≤ n) ∨ (u = .int .i64 277 ∧ v = .int .i64 67 ∧ x = .int .i64 4 ∧ 67 ≤ n) ∨ (u = .int .i64 281 ∧ v = .int .i64 131 ∧ x = .int .i64 5 ∧ 131 ≤ n)))
        (fun _ _ x _ => 6 - (intOf x).toNat)
      case atStart => exact ⟨0, rfl, .inl ⟨rfl, rfl, rfl, hn1⟩⟩
      case round =>
        obtain ⟨m, rfl, hrel⟩ := hrel
        rcases hrel with ⟨rfl, rfl, rfl, hle⟩ | ⟨rfl, rfl, rfl, hle⟩ | ⟨rfl, rfl, rfl, hle⟩ | ⟨rfl, rfl, rfl, hle⟩ | ⟨rfl, rfl, rfl, hle⟩
        · go_wp2
          go_loopw [2, 3, 4, 15] (fun u v x y wr => ∃ (j m' : Nat), wr = w.drewN m' ∧ j ≤ 4 ∧ u = .int .i64 (265 + (j : Int)) ∧ v = .int .i64 (11 + 2 * (j : Int)) ∧ x = .int .i64 1 ∧ y = .int .i64 j ∧ 11 + 2 * j ≤ n)
            (fun _ _ _ y _ => 4 - (intOf y).toNat)
          case atStart => exact ⟨0, m, rfl, by omega, by simp, by simp, rfl, rfl, by omega⟩
          case round =>
            obtain ⟨j, m', rfl, hj, rfl, rfl, rfl, rfl, hj2⟩ := hrel
            by_cases hj4 : j < 4
            · have hb : lbase (265 + j) = 11 + 2 * j ∧ lbits (265 + j) = 1 := by
                have hc : j = 0 ∨ j = 1 ∨ j = 2 ∨ j = 3 := by omega
                rcases hc with rfl | rfl | rfl | rfl <;> decide +kernel
              have hb' : 265 + j = 284 ∨ lbase (265 + j + 1) = 11 + 2 * (j + 1) := by
                have hc : j = 0 ∨ j = 1 ∨ j = 2 ∨ j = 3 := by omega
                rcases hc with rfl | rfl | rfl | rfl <;> decide +kernel
              have Hb := Lib.hid hb
              have Hb' := Lib.hid hb'
              clear hb hb'
              by_cases hlt : n < 11 + 2 * (j + 1)
              · have hs : lsym n = 265 + j := lsym_eq (by omega) (by omega) (by omega) (by have := Hb.out.1; omega) (by have := Hb'.out; omega)
                have Hs := Lib.hid hs
                clear hs
                have d : decide ((n : Int) < 11 + 2 * (j : Int) + 2) = true := by simp; omega
                go_wp2
                go_ret3
                exact ⟨ret_int3 (by rw [Hs.out]; omega) (by rw [Hs.out, Hb.out.1]; omega) (by rw [Hs.out, Hb.out.2]; rfl), _, rfl⟩
              · have d : decide ((n : Int) < 11 + 2 * (j : Int) + 2) = false := by simp; omega
                go_wp2
                go_quiet (fail)
                go_wp2
                go_roundw
                case rel => exact ⟨j + 1, _, rfl, by omega, by go_num, by go_num, rfl, by go_num, by omega⟩
                case measure => simp [intOf]; omega
            · have hj' : j = 4 := by omega
              subst hj'
              go_wp2
              go_roundw
              case rel => exact ⟨m', rfl, .inr (.inl ⟨rfl, rfl, rfl, by omega⟩)⟩
              case measure => first | (simp [intOf]; done) | (simp [intOf]; omega)
        · go_wp2
          go_loopw [2, 3, 4, 15] (fun u v x y wr => ∃ (j m' : Nat), wr = w.drewN m' ∧ j ≤ 4 ∧ u = .int .i64 (269 + (j : Int)) ∧ v = .int .i64 (19 + 4 * (j : Int)) ∧ x = .int .i64 2 ∧ y = .int .i64 j ∧ 19 + 4 * j ≤ n)
            (fun _ _ _ y _ => 4 - (intOf y).toNat)
          case atStart => exact ⟨0, m, rfl, by omega, by simp, by simp, rfl, rfl, by omega⟩
          case round =>
            obtain ⟨j, m', rfl, hj, rfl, rfl, rfl, rfl, hj2⟩ := hrel
            by_cases hj4 : j < 4
            · have hb : lbase (269 + j) = 19 + 4 * j ∧ lbits (269 + j) = 2 := by
                have hc : j = 0 ∨ j = 1 ∨ j = 2 ∨ j = 3 := by omega
                rcases hc with rfl | rfl | rfl | rfl <;> decide +kernel
              have hb' : 269 + j = 284 ∨ lbase (269 + j + 1) = 19 + 4 * (j + 1) := by
                have hc : j = 0 ∨ j = 1 ∨ j = 2 ∨ j = 3 := by omega
                rcases hc with rfl | rfl | rfl | rfl <;> decide +kernel
              have Hb := Lib.hid hb
              have Hb' := Lib.hid hb'
              clear hb hb'
              by_cases hlt : n < 19 + 4 * (j + 1)
              · have hs : lsym n = 269 + j := lsym_eq (by omega) (by omega) (by omega) (by have := Hb.out.1; omega) (by have := Hb'.out; omega)
                have Hs := Lib.hid hs
                clear hs
                have d : decide ((n : Int) < 19 + 4 * (j : Int) + 4) = true := by simp; omega
                go_wp2
                go_ret3
                exact ⟨ret_int3 (by rw [Hs.out]; omega) (by rw [Hs.out, Hb.out.1]; omega) (by rw [Hs.out, Hb.out.2]; rfl), _, rfl⟩
              · have d : decide ((n : Int) < 19 + 4 * (j : Int) + 4) = false := by simp; omega
                go_wp2
                go_quiet (fail)
                go_wp2
                go_roundw
                case rel => exact ⟨j + 1, _, rfl, by omega, by go_num, by go_num, rfl, by go_num, by omega⟩
                case measure => simp [intOf]; omega
            · have hj' : j = 4 := by omega
              subst hj'
              go_wp2
              go_roundw
              case rel => exact ⟨m', rfl, .inr (.inr (.inl ⟨rfl, rfl, rfl, by omega⟩))⟩
              case measure => first | (simp [intOf]; done) | (simp [intOf]; omega)
        · go_wp2
          go_loopw [2, 3, 4, 15] (fun u v x y wr => ∃ (j m' : Nat), wr = w.drewN m' ∧ j ≤ 4 ∧ u = .int .i64 (273 + (j : Int)) ∧ v = .int .i64 (35 + 8 * (j : Int)) ∧ x = .int .i64 3 ∧ y = .int .i64 j ∧ 35 + 8 * j ≤ n)
            (fun _ _ _ y _ => 4 - (intOf y).toNat)
          case atStart => exact ⟨0, m, rfl, by omega, by simp, by simp, rfl, rfl, by omega⟩
          case round =>
            obtain ⟨j, m', rfl, hj, rfl, rfl, rfl, rfl, hj2⟩ := hrel
            by_cases hj4 : j < 4
            · have hb : lbase (273 + j) = 35 + 8 * j ∧ lbits (273 + j) = 3 := by
                have hc : j = 0 ∨ j = 1 ∨ j = 2 ∨ j = 3 := by omega
                rcases hc with rfl | rfl | rfl | rfl <;> decide +kernel
              have hb' : 273 + j = 284 ∨ lbase (273 + j + 1) = 35 + 8 * (j + 1) := by
                have hc : j = 0 ∨ j = 1 ∨ j = 2 ∨ j = 3 := by omega
                rcases hc with rfl | rfl | rfl | rfl <;> decide +kernel
              have Hb := Lib.hid hb
              have Hb' := Lib.hid hb'
              clear hb hb'
              by_cases hlt : n < 35 + 8 * (j + 1)
              · have hs : lsym n = 273 + j := lsym_eq (by omega) (by omega) (by omega) (by have := Hb.out.1; omega) (by have := Hb'.out; omega)
                have Hs := Lib.hid hs
                clear hs
                have d : decide ((n : Int) < 35 + 8 * (j : Int) + 8) = true := by simp; omega
                go_wp2
                go_ret3
                exact ⟨ret_int3 (by rw [Hs.out]; omega) (by rw [Hs.out, Hb.out.1]; omega) (by rw [Hs.out, Hb.out.2]; rfl), _, rfl⟩
              · have d : decide ((n : Int) < 35 + 8 * (j : Int) + 8) = false := by simp; omega
                go_wp2
                go_quiet (fail)
                go_wp2
                go_roundw
                case rel => exact ⟨j + 1, _, rfl, by omega, by go_num, by go_num, rfl, by go_num, by omega⟩
                case measure => simp [intOf]; omega
            · have hj' : j = 4 := by omega
              subst hj'
              go_wp2
              go_roundw
              case rel => exact ⟨m', rfl, .inr (.inr (.inr (.inl ⟨rfl, rfl, rfl, by omega⟩)))⟩
              case measure => first | (simp [intOf]; done) | (simp [intOf]; omega)
        · go_wp2
          go_loopw [2, 3, 4, 15] (fun u v x y wr => ∃ (j m' : Nat), wr = w.drewN m' ∧ j ≤ 4 ∧ u = .int .i64 (277 + (j : Int)) ∧ v = .int .i64 (67 + 16 * (j : Int)) ∧ x = .int .i64 4 ∧ y = .int .i64 j ∧ 67 + 16 * j ≤ n)
            (fun _ _ _ y _ => 4 - (intOf y).toNat)
          case atStart => exact ⟨0, m, rfl, by omega, by simp, by simp, rfl, rfl, by omega⟩
          case round =>
            obtain ⟨j, m', rfl, hj, rfl, rfl, rfl, rfl, hj2⟩ := hrel
            by_cases hj4 : j < 4
            · have hb : lbase (277 + j) = 67 + 16 * j ∧ lbits (277 + j) = 4 := by
                have hc : j = 0 ∨ j = 1 ∨ j = 2 ∨ j = 3 := by omega
                rcases hc with rfl | rfl | rfl | rfl <;> decide +kernel
              have hb' : 277 + j = 284 ∨ lbase (277 + j + 1) = 67 + 16 * (j + 1) := by
                have hc : j = 0 ∨ j = 1 ∨ j = 2 ∨ j = 3 := by omega
                rcases hc with rfl | rfl | rfl | rfl <;> decide +kernel
              have Hb := Lib.hid hb
              have Hb' := Lib.hid hb'
              clear hb hb'
              by_cases hlt : n < 67 + 16 * (j + 1)
              · have hs : lsym n = 277 + j := lsym_eq (by omega) (by omega) (by omega) (by have := Hb.out.1; omega) (by have := Hb'.out; omega)
                have Hs := Lib.hid hs
                clear hs
                have d : decide ((n : Int) < 67 + 16 * (j : Int) + 16) = true := by simp; omega
                go_wp2
                go_ret3
                exact ⟨ret_int3 (by rw [Hs.out]; omega) (by rw [Hs.out, Hb.out.1]; omega) (by rw [Hs.out, Hb.out.2]; rfl), _, rfl⟩
              · have d : decide ((n : Int) < 67 + 16 * (j : Int) + 16) = false := by simp; omega
                go_wp2
                go_quiet (fail)
                go_wp2
                go_roundw
                case rel => exact ⟨j + 1, _, rfl, by omega, by go_num, by go_num, rfl, by go_num, by omega⟩
                case measure => simp [intOf]; omega
            · have hj' : j = 4 := by omega
              subst hj'
              go_wp2
              go_roundw
              case rel => exact ⟨m', rfl, .inr (.inr (.inr (.inr (⟨rfl, rfl, rfl, by omega⟩))))⟩
              case measure => first | (simp [intOf]; done) | (simp [intOf]; omega)
        · go_wp2
          go_loopw [2, 3, 4, 15] (fun u v x y wr => ∃ (j m' : Nat), wr = w.drewN m' ∧ j ≤ 4 ∧ u = .int .i64 (281 + (j : Int)) ∧ v = .int .i64 (131 + 32 * (j : Int)) ∧ x = .int .i64 5 ∧ y = .int .i64 j ∧ 131 + 32 * j ≤ n)
            (fun _ _ _ y _ => 4 - (intOf y).toNat)
          case atStart => exact ⟨0, m, rfl, by omega, by simp, by simp, rfl, rfl, by omega⟩
          case round =>
            obtain ⟨j, m', rfl, hj, rfl, rfl, rfl, rfl, hj2⟩ := hrel
            by_cases hj4 : j < 4
            · have hb : lbase (281 + j) = 131 + 32 * j ∧ lbits (281 + j) = 5 := by
                have hc : j = 0 ∨ j = 1 ∨ j = 2 ∨ j = 3 := by omega
                rcases hc with rfl | rfl | rfl | rfl <;> decide +kernel
              have hb' : 281 + j = 284 ∨ lbase (281 + j + 1) = 131 + 32 * (j + 1) := by
                have hc : j = 0 ∨ j = 1 ∨ j = 2 ∨ j = 3 := by omega
                rcases hc with rfl | rfl | rfl | rfl <;> decide +kernel
              have Hb := Lib.hid hb
              have Hb' := Lib.hid hb'
              clear hb hb'
              by_cases hlt : n < 131 + 32 * (j + 1)
              · have hs : lsym n = 281 + j := lsym_eq (by omega) (by omega) (by omega) (by have := Hb.out.1; omega) (by have := Hb'.out; omega)
                have Hs := Lib.hid hs
                clear hs
                have d : decide ((n : Int) < 131 + 32 * (j : Int) + 32) = true := by simp; omega
                go_wp2
                go_ret3
                exact ⟨ret_int3 (by rw [Hs.out]; omega) (by rw [Hs.out, Hb.out.1]; omega) (by rw [Hs.out, Hb.out.2]; rfl), _, rfl⟩
              · have d : decide ((n : Int) < 131 + 32 * (j : Int) + 32) = false := by simp; omega
                go_wp2
                go_quiet (fail)
                go_wp2
                go_roundw
                case rel => exact ⟨j + 1, _, rfl, by omega, by go_num, by go_num, rfl, by go_num, by omega⟩
                case measure => simp [intOf]; omega
            · have hj' : j = 4 := by omega
              subst hj'
              go_wp2
              all_goals (exfalso; omega)

end Go.Proofs.Ytpfalaghggjbjaa
