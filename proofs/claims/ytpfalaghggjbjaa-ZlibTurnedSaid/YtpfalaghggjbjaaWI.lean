/-
  The walk of deflate.distance.
  Conditions: a distance from 1 to 32768.
-/
import Derived.Test.YtpfalaghggjbjaaWH
import Derived.Deep.CutRange
namespace Go.Proofs.Ytpfalaghggjbjaa
open Go.RowKit


set_option maxRecDepth 100000 in
set_option maxHeartbeats 8000000 in
theorem distance_any (n : Nat) (h1 : 1 ≤ n) (h2 : n ≤ 32768) (w : World) :
    Calls Try.prog 63 #[.int .i64 n] w fun e w' => e = .returned (.tuple #[.int .i64 (dsym n : Nat), .int .i64 (dbase (dsym n) : Nat), .int .i64 (dbits (dsym n) : Nat)]) ∧ ∃ m, w' = w.drewN m := by
  by_cases hB : n ≤ 4
  · have hc : n = 1 ∨ n = 2 ∨ n = 3 ∨ n = 4 := by omega
    rcases hc with rfl | rfl | rfl | rfl
    all_goals
      go_enter Try.func63, Try.ntmps63
      go_wp2
      go_ret3
      exact ⟨ret_int3 (by decide +kernel) (by decide +kernel) (by decide +kernel), 0, rfl⟩
  · have d2 : decide ((n : Int) ≤ 4) = false := by simp; omega
    have hn1 : 5 ≤ n := by omega
    clear h1 hB
    go_enter Try.func63, Try.ntmps63
    go_wp2
    go_loopw [2, 3, 4] (fun u v x wr => ∃ m, wr = w.drewN m ∧ ((u = .int .i64 4 ∧ v = .int .i64 5 ∧ x = .int .i64 1 ∧ 5 ≤ n) ∨ (u = .int .i64 6 ∧ v = .int .i64 9 ∧ x = .int .i64 2 ∧ 9 ≤ n) ∨ (u = .int .i64 8 ∧ v = .int .i64 17 ∧ x = .int .i64 3 ∧ 17 ≤ n) ∨ (u = .int .i64 10 ∧ v = .int .i64 33 ∧ x = .int .i64 4 ∧ 33 ≤ n) ∨ (u = .int .i64 12 ∧ v = .int .i64 65 ∧ x = .int .i64 5 ∧ 65 ≤ n) ∨ (u = .int .i64 14 ∧ v = .int .i64 129 ∧ x = .int .i64 6 ∧ 129 ≤ n) ∨ (u = .int .i64 16 ∧ v = .int .i64 257 ∧ x = .int .i64 7 ∧ 257 ≤ n) ∨ (u = .int .i64 18 ∧ v = .int .i64 513 ∧ x = .int .i64 8 ∧ 513 ≤ n) ∨ (u = .int .i64 20 ∧ v = .int .i64 1025 ∧ x = .int .i64 9 ∧ 1025 ≤ n) ∨ (u = .int .i64 22 ∧ v = .int .i64 2049 ∧ x = .int .i64 10 ∧ 2049 ≤ n) ∨ (u = .int .i64 24 ∧ v = .int .i64 4097 ∧ x = .int .i64 11 ∧ 4097 ≤ n) ∨ (u = .int .i64 26 ∧ v = .int .i64 8193 ∧ x = .int .i64 12 ∧ 8193 ≤ n) ∨ (u = .int .i64 28 ∧ v = .int .i64 16385 ∧ x = .int .i64 13 ∧ 16385 ≤ n)))
      (fun _ _ x _ => 14 - (intOf x).toNat)
    case atStart => exact ⟨0, rfl, .inl ⟨rfl, rfl, rfl, hn1⟩⟩
    case round =>
      obtain ⟨m, rfl, hrel⟩ := hrel
      rcases hrel with ⟨rfl, rfl, rfl, hle⟩ | ⟨rfl, rfl, rfl, hle⟩ | ⟨rfl, rfl, rfl, hle⟩ | ⟨rfl, rfl, rfl, hle⟩ | ⟨rfl, rfl, rfl, hle⟩ | ⟨rfl, rfl, rfl, hle⟩ | ⟨rfl, rfl, rfl, hle⟩ | ⟨rfl, rfl, rfl, hle⟩ | ⟨rfl, rfl, rfl, hle⟩ | ⟨rfl, rfl, rfl, hle⟩ | ⟨rfl, rfl, rfl, hle⟩ | ⟨rfl, rfl, rfl, hle⟩ | ⟨rfl, rfl, rfl, hle⟩
      · go_wp2
        go_loopw [2, 3, 4, 12] (fun u v x y wr => ∃ (j m' : Nat), wr = w.drewN m' ∧ j ≤ 2 ∧ u = .int .i64 (4 + (j : Int)) ∧ v = .int .i64 (5 + 2 * (j : Int)) ∧ x = .int .i64 1 ∧ y = .int .i64 j ∧ 5 + 2 * j ≤ n)
          (fun _ _ _ y _ => 2 - (intOf y).toNat)
        case atStart => exact ⟨0, m, rfl, by omega, by simp, by simp, rfl, rfl, by omega⟩
        case round =>
          obtain ⟨j, m', rfl, hj, rfl, rfl, rfl, rfl, hj2⟩ := hrel
          by_cases hj4 : j < 2
          · have hb : dbase (4 + j) = 5 + 2 * j ∧ dbits (4 + j) = 1 := by
              have hc : j = 0 ∨ j = 1 := by omega
              rcases hc with rfl | rfl <;> decide +kernel
            have hb' : 4 + j = 29 ∨ dbase (4 + j + 1) = 5 + 2 * (j + 1) := by
              have hc : j = 0 ∨ j = 1 := by omega
              rcases hc with rfl | rfl <;> decide +kernel
            have Hb := Lib.hid hb
            have Hb' := Lib.hid hb'
            clear hb hb'
            by_cases hlt : n < 5 + 2 * (j + 1)
            · have hs : dsym n = 4 + j := dsym_eq (by omega) (by have := Hb.out.1; omega) (by have := Hb'.out; omega)
              have Hs := Lib.hid hs
              clear hs
              have d : decide ((n : Int) < 5 + 2 * (j : Int) + 2) = true := by simp; omega
              go_wp2
              go_ret3
              exact ⟨ret_int3 (by rw [Hs.out]; omega) (by rw [Hs.out, Hb.out.1]; omega) (by rw [Hs.out, Hb.out.2]; rfl), _, rfl⟩
            · have d : decide ((n : Int) < 5 + 2 * (j : Int) + 2) = false := by simp; omega
              go_wp2
              go_quiet (fail)
              go_wp2
              go_roundw
              case rel => exact ⟨j + 1, _, rfl, by omega, by go_num, by go_num, rfl, by go_num, by omega⟩
              case measure => simp [intOf]; omega
          · have hj' : j = 2 := by omega
            subst hj'
            go_wp2
            go_roundw
            case rel => exact ⟨m', rfl, .inr (.inl ⟨rfl, rfl, rfl, by omega⟩)⟩
            case measure => first | (simp [intOf]; done) | (simp [intOf]; omega)
      · go_wp2
        go_loopw [2, 3, 4, 12] (fun u v x y wr => ∃ (j m' : Nat), wr = w.drewN m' ∧ j ≤ 2 ∧ u = .int .i64 (6 + (j : Int)) ∧ v = .int .i64 (9 + 4 * (j : Int)) ∧ x = .int .i64 2 ∧ y = .int .i64 j ∧ 9 + 4 * j ≤ n)
          (fun _ _ _ y _ => 2 - (intOf y).toNat)
        case atStart => exact ⟨0, m, rfl, by omega, by simp, by simp, rfl, rfl, by omega⟩
        case round =>
          obtain ⟨j, m', rfl, hj, rfl, rfl, rfl, rfl, hj2⟩ := hrel
          by_cases hj4 : j < 2
          · have hb : dbase (6 + j) = 9 + 4 * j ∧ dbits (6 + j) = 2 := by
              have hc : j = 0 ∨ j = 1 := by omega
              rcases hc with rfl | rfl <;> decide +kernel
            have hb' : 6 + j = 29 ∨ dbase (6 + j + 1) = 9 + 4 * (j + 1) := by
              have hc : j = 0 ∨ j = 1 := by omega
              rcases hc with rfl | rfl <;> decide +kernel
            have Hb := Lib.hid hb
            have Hb' := Lib.hid hb'
            clear hb hb'
            by_cases hlt : n < 9 + 4 * (j + 1)
            · have hs : dsym n = 6 + j := dsym_eq (by omega) (by have := Hb.out.1; omega) (by have := Hb'.out; omega)
              have Hs := Lib.hid hs
              clear hs
              have d : decide ((n : Int) < 9 + 4 * (j : Int) + 4) = true := by simp; omega
              go_wp2
              go_ret3
              exact ⟨ret_int3 (by rw [Hs.out]; omega) (by rw [Hs.out, Hb.out.1]; omega) (by rw [Hs.out, Hb.out.2]; rfl), _, rfl⟩
            · have d : decide ((n : Int) < 9 + 4 * (j : Int) + 4) = false := by simp; omega
              go_wp2
              go_quiet (fail)
              go_wp2
              go_roundw
              case rel => exact ⟨j + 1, _, rfl, by omega, by go_num, by go_num, rfl, by go_num, by omega⟩
              case measure => simp [intOf]; omega
          · have hj' : j = 2 := by omega
            subst hj'
            go_wp2
            go_roundw
            case rel => exact ⟨m', rfl, .inr (.inr (.inl ⟨rfl, rfl, rfl, by omega⟩))⟩
            case measure => first | (simp [intOf]; done) | (simp [intOf]; omega)
      · go_wp2
        go_loopw [2, 3, 4, 12] (fun u v x y wr => ∃ (j m' : Nat), wr = w.drewN m' ∧ j ≤ 2 ∧ u = .int .i64 (8 + (j : Int)) ∧ v = .int .i64 (17 + 8 * (j : Int)) ∧ x = .int .i64 3 ∧ y = .int .i64 j ∧ 17 + 8 * j ≤ n)
          (fun _ _ _ y _ => 2 - (intOf y).toNat)
        case atStart => exact ⟨0, m, rfl, by omega, by simp, by simp, rfl, rfl, by omega⟩
        case round =>
          obtain ⟨j, m', rfl, hj, rfl, rfl, rfl, rfl, hj2⟩ := hrel
          by_cases hj4 : j < 2
          · have hb : dbase (8 + j) = 17 + 8 * j ∧ dbits (8 + j) = 3 := by
              have hc : j = 0 ∨ j = 1 := by omega
              rcases hc with rfl | rfl <;> decide +kernel
            have hb' : 8 + j = 29 ∨ dbase (8 + j + 1) = 17 + 8 * (j + 1) := by
              have hc : j = 0 ∨ j = 1 := by omega
              rcases hc with rfl | rfl <;> decide +kernel
            have Hb := Lib.hid hb
            have Hb' := Lib.hid hb'
            clear hb hb'
            by_cases hlt : n < 17 + 8 * (j + 1)
            · have hs : dsym n = 8 + j := dsym_eq (by omega) (by have := Hb.out.1; omega) (by have := Hb'.out; omega)
              have Hs := Lib.hid hs
              clear hs
              have d : decide ((n : Int) < 17 + 8 * (j : Int) + 8) = true := by simp; omega
              go_wp2
              go_ret3
              exact ⟨ret_int3 (by rw [Hs.out]; omega) (by rw [Hs.out, Hb.out.1]; omega) (by rw [Hs.out, Hb.out.2]; rfl), _, rfl⟩
            · have d : decide ((n : Int) < 17 + 8 * (j : Int) + 8) = false := by simp; omega
              go_wp2
              go_quiet (fail)
              go_wp2
              go_roundw
              case rel => exact ⟨j + 1, _, rfl, by omega, by go_num, by go_num, rfl, by go_num, by omega⟩
              case measure => simp [intOf]; omega
          · have hj' : j = 2 := by omega
            subst hj'
            go_wp2
            go_roundw
            case rel => exact ⟨m', rfl, .inr (.inr (.inr (.inl ⟨rfl, rfl, rfl, by omega⟩)))⟩
            case measure => first | (simp [intOf]; done) | (simp [intOf]; omega)
      · go_wp2
        go_loopw [2, 3, 4, 12] (fun u v x y wr => ∃ (j m' : Nat), wr = w.drewN m' ∧ j ≤ 2 ∧ u = .int .i64 (10 + (j : Int)) ∧ v = .int .i64 (33 + 16 * (j : Int)) ∧ x = .int .i64 4 ∧ y = .int .i64 j ∧ 33 + 16 * j ≤ n)
          (fun _ _ _ y _ => 2 - (intOf y).toNat)
        case atStart => exact ⟨0, m, rfl, by omega, by simp, by simp, rfl, rfl, by omega⟩
        case round =>
          obtain ⟨j, m', rfl, hj, rfl, rfl, rfl, rfl, hj2⟩ := hrel
          by_cases hj4 : j < 2
          · have hb : dbase (10 + j) = 33 + 16 * j ∧ dbits (10 + j) = 4 := by
              have hc : j = 0 ∨ j = 1 := by omega
              rcases hc with rfl | rfl <;> decide +kernel
            have hb' : 10 + j = 29 ∨ dbase (10 + j + 1) = 33 + 16 * (j + 1) := by
              have hc : j = 0 ∨ j = 1 := by omega
              rcases hc with rfl | rfl <;> decide +kernel
            have Hb := Lib.hid hb
            have Hb' := Lib.hid hb'
            clear hb hb'
            by_cases hlt : n < 33 + 16 * (j + 1)
            · have hs : dsym n = 10 + j := dsym_eq (by omega) (by have := Hb.out.1; omega) (by have := Hb'.out; omega)
              have Hs := Lib.hid hs
              clear hs
              have d : decide ((n : Int) < 33 + 16 * (j : Int) + 16) = true := by simp; omega
              go_wp2
              go_ret3
              exact ⟨ret_int3 (by rw [Hs.out]; omega) (by rw [Hs.out, Hb.out.1]; omega) (by rw [Hs.out, Hb.out.2]; rfl), _, rfl⟩
            · have d : decide ((n : Int) < 33 + 16 * (j : Int) + 16) = false := by simp; omega
              go_wp2
              go_quiet (fail)
              go_wp2
              go_roundw
              case rel => exact ⟨j + 1, _, rfl, by omega, by go_num, by go_num, rfl, by go_num, by omega⟩
              case measure => simp [intOf]; omega
          · have hj' : j = 2 := by omega
            subst hj'
            go_wp2
            go_roundw
            case rel => exact ⟨m', rfl, .inr (.inr (.inr (.inr (.inl ⟨rfl, rfl, rfl, by omega⟩))))⟩
            case measure => first | (simp [intOf]; done) | (simp [intOf]; omega)
      · go_wp2
        go_loopw [2, 3, 4, 12] (fun u v x y wr => ∃ (j m' : Nat), wr = w.drewN m' ∧ j ≤ 2 ∧ u = .int .i64 (12 + (j : Int)) ∧ v = .int .i64 (65 + 32 * (j : Int)) ∧ x = .int .i64 5 ∧ y = .int .i64 j ∧ 65 + 32 * j ≤ n)
          (fun _ _ _ y _ => 2 - (intOf y).toNat)
        case atStart => exact ⟨0, m, rfl, by omega, by simp, by simp, rfl, rfl, by omega⟩
        case round =>
          obtain ⟨j, m', rfl, hj, rfl, rfl, rfl, rfl, hj2⟩ := hrel
          by_cases hj4 : j < 2
          · have hb : dbase (12 + j) = 65 + 32 * j ∧ dbits (12 + j) = 5 := by
              have hc : j = 0 ∨ j = 1 := by omega
              rcases hc with rfl | rfl <;> decide +kernel
            have hb' : 12 + j = 29 ∨ dbase (12 + j + 1) = 65 + 32 * (j + 1) := by
              have hc : j = 0 ∨ j = 1 := by omega
              rcases hc with rfl | rfl <;> decide +kernel
            have Hb := Lib.hid hb
            have Hb' := Lib.hid hb'
            clear hb hb'
            by_cases hlt : n < 65 + 32 * (j + 1)
            · have hs : dsym n = 12 + j := dsym_eq (by omega) (by have := Hb.out.1; omega) (by have := Hb'.out; omega)
              have Hs := Lib.hid hs
              clear hs
              have d : decide ((n : Int) < 65 + 32 * (j : Int) + 32) = true := by simp; omega
              go_wp2
              go_ret3
              exact ⟨ret_int3 (by rw [Hs.out]; omega) (by rw [Hs.out, Hb.out.1]; omega) (by rw [Hs.out, Hb.out.2]; rfl), _, rfl⟩
            · have d : decide ((n : Int) < 65 + 32 * (j : Int) + 32) = false := by simp; omega
              go_wp2
              go_quiet (fail)
              go_wp2
              go_roundw
              case rel => exact ⟨j + 1, _, rfl, by omega, by go_num, by go_num, rfl, by go_num, by omega⟩
              case measure => simp [intOf]; omega
          · have hj' : j = 2 := by omega
            subst hj'
            go_wp2
            go_roundw
            case rel => exact ⟨m', rfl, .inr (.inr (.inr (.inr (.inr (.inl ⟨rfl, rfl, rfl, by omega⟩)))))⟩
            case measure => first | (simp [intOf]; done) | (simp [intOf]; omega)
      · go_wp2
        go_loopw [2, 3, 4, 12] (fun u v x y wr => ∃ (j m' : Nat), wr = w.drewN m' ∧ j ≤ 2 ∧ u = .int .i64 (14 + (j : Int)) ∧ v = .int .i64 (129 + 64 * (j : Int)) ∧ x = .int .i64 6 ∧ y = .int .i64 j ∧ 129 + 64 * j ≤ n)
          (fun _ _ _ y _ => 2 - (intOf y).toNat)
        case atStart => exact ⟨0, m, rfl, by omega, by simp, by simp, rfl, rfl, by omega⟩
        case round =>
          obtain ⟨j, m', rfl, hj, rfl, rfl, rfl, rfl, hj2⟩ := hrel
          by_cases hj4 : j < 2
          · have hb : dbase (14 + j) = 129 + 64 * j ∧ dbits (14 + j) = 6 := by
              have hc : j = 0 ∨ j = 1 := by omega
              rcases hc with rfl | rfl <;> decide +kernel
            have hb' : 14 + j = 29 ∨ dbase (14 + j + 1) = 129 + 64 * (j + 1) := by
              have hc : j = 0 ∨ j = 1 := by omega
              rcases hc with rfl | rfl <;> decide +kernel
            have Hb := Lib.hid hb
            have Hb' := Lib.hid hb'
            clear hb hb'
            by_cases hlt : n < 129 + 64 * (j + 1)
            · have hs : dsym n = 14 + j := dsym_eq (by omega) (by have := Hb.out.1; omega) (by have := Hb'.out; omega)
              have Hs := Lib.hid hs
              clear hs
              have d : decide ((n : Int) < 129 + 64 * (j : Int) + 64) = true := by simp; omega
              go_wp2
              go_ret3
              exact ⟨ret_int3 (by rw [Hs.out]; omega) (by rw [Hs.out, Hb.out.1]; omega) (by rw [Hs.out, Hb.out.2]; rfl), _, rfl⟩
            · have d : decide ((n : Int) < 129 + 64 * (j : Int) + 64) = false := by simp; omega
              go_wp2
              go_quiet (fail)
              go_wp2
              go_roundw
              case rel => exact ⟨j + 1, _, rfl, by omega, by go_num, by go_num, rfl, by go_num, by omega⟩
              case measure => simp [intOf]; omega
          · have hj' : j = 2 := by omega
            subst hj'
            go_wp2
            go_roundw
            case rel => exact ⟨m', rfl, .inr (.inr (.inr (.inr (.inr (.inr (.inl ⟨rfl, rfl, rfl, by omega⟩))))))⟩
            case measure => first | (simp [intOf]; done) | (simp [intOf]; omega)
      · go_wp2
        go_loopw [2, 3, 4, 12] (fun u v x y wr => ∃ (j m' : Nat), wr = w.drewN m' ∧ j ≤ 2 ∧ u = .int .i64 (16 + (j : Int)) ∧ v = .int .i64 (257 + 128 * (j : Int)) ∧ x = .int .i64 7 ∧ y = .int .i64 j ∧ 257 + 128 * j ≤ n)
          (fun _ _ _ y _ => 2 - (intOf y).toNat)
        case atStart => exact ⟨0, m, rfl, by omega, by simp, by simp, rfl, rfl, by omega⟩
        case round =>
          obtain ⟨j, m', rfl, hj, rfl, rfl, rfl, rfl, hj2⟩ := hrel
          by_cases hj4 : j < 2
          · have hb : dbase (16 + j) = 257 + 128 * j ∧ dbits (16 + j) = 7 := by
              have hc : j = 0 ∨ j = 1 := by omega
              rcases hc with rfl | rfl <;> decide +kernel
            have hb' : 16 + j = 29 ∨ dbase (16 + j + 1) = 257 + 128 * (j + 1) := by
              have hc : j = 0 ∨ j = 1 := by omega
              rcases hc with rfl | rfl <;> decide +kernel
            have Hb := Lib.hid hb
            have Hb' := Lib.hid hb'
            clear hb hb'
            by_cases hlt : n < 257 + 128 * (j + 1)
            · have hs : dsym n = 16 + j := dsym_eq (by omega) (by have := Hb.out.1; omega) (by have := Hb'.out; omega)
              have Hs := Lib.hid hs
              clear hs
              have d : decide ((n : Int) < 257 + 128 * (j : Int) + 128) = true := by simp; omega
              go_wp2
              go_ret3
              exact ⟨ret_int3 (by rw [Hs.out]; omega) (by rw [Hs.out, Hb.out.1]; omega) (by rw [Hs.out, Hb.out.2]; rfl), _, rfl⟩
            · have d : decide ((n : Int) < 257 + 128 * (j : Int) + 128) = false := by simp; omega
              go_wp2
              go_quiet (fail)
              go_wp2
              go_roundw
              case rel => exact ⟨j + 1, _, rfl, by omega, by go_num, by go_num, rfl, by go_num, by omega⟩
              case measure => simp [intOf]; omega
          · have hj' : j = 2 := by omega
            subst hj'
            go_wp2
            go_roundw
            case rel => exact ⟨m', rfl, .inr (.inr (.inr (.inr (.inr (.inr (.inr (.inl ⟨rfl, rfl, rfl, by omega⟩)))))))⟩
            case measure => first | (simp [intOf]; done) | (simp [intOf]; omega)
      · go_wp2
        go_loopw [2, 3, 4, 12] (fun u v x y wr => ∃ (j m' : Nat), wr = w.drewN m' ∧ j ≤ 2 ∧ u = .int .i64 (18 + (j : Int)) ∧ v = .int .i64 (513 + 256 * (j : Int)) ∧ x = .int .i64 8 ∧ y = .int .i64 j ∧ 513 + 256 * j ≤ n)
          (fun _ _ _ y _ => 2 - (intOf y).toNat)
        case atStart => exact ⟨0, m, rfl, by omega, by simp, by simp, rfl, rfl, by omega⟩
        case round =>
          obtain ⟨j, m', rfl, hj, rfl, rfl, rfl, rfl, hj2⟩ := hrel
          by_cases hj4 : j < 2
          · have hb : dbase (18 + j) = 513 + 256 * j ∧ dbits (18 + j) = 8 := by
              have hc : j = 0 ∨ j = 1 := by omega
              rcases hc with rfl | rfl <;> decide +kernel
            have hb' : 18 + j = 29 ∨ dbase (18 + j + 1) = 513 + 256 * (j + 1) := by
              have hc : j = 0 ∨ j = 1 := by omega
              rcases hc with rfl | rfl <;> decide +kernel
            have Hb := Lib.hid hb
            have Hb' := Lib.hid hb'
            clear hb hb'
            by_cases hlt : n < 513 + 256 * (j + 1)
            · have hs : dsym n = 18 + j := dsym_eq (by omega) (by have := Hb.out.1; omega) (by have := Hb'.out; omega)
              have Hs := Lib.hid hs
              clear hs
              have d : decide ((n : Int) < 513 + 256 * (j : Int) + 256) = true := by simp; omega
              go_wp2
              go_ret3
              exact ⟨ret_int3 (by rw [Hs.out]; omega) (by rw [Hs.out, Hb.out.1]; omega) (by rw [Hs.out, Hb.out.2]; rfl), _, rfl⟩
            · have d : decide ((n : Int) < 513 + 256 * (j : Int) + 256) = false := by simp; omega
              go_wp2
              go_quiet (fail)
              go_wp2
              go_roundw
              case rel => exact ⟨j + 1, _, rfl, by omega, by go_num, by go_num, rfl, by go_num, by omega⟩
              case measure => simp [intOf]; omega
          · have hj' : j = 2 := by omega
            subst hj'
            go_wp2
            go_roundw
            case rel => exact ⟨m', rfl, .inr (.inr (.inr (.inr (.inr (.inr (.inr (.inr (.inl ⟨rfl, rfl, rfl, by omega⟩))))))))⟩
            case measure => first | (simp [intOf]; done) | (simp [intOf]; omega)
      · go_wp2
        go_loopw [2, 3, 4, 12] (fun u v x y wr => ∃ (j m' : Nat), wr = w.drewN m' ∧ j ≤ 2 ∧ u = .int .i64 (20 + (j : Int)) ∧ v = .int .i64 (1025 + 512 * (j : Int)) ∧ x = .int .i64 9 ∧ y = .int .i64 j ∧ 1025 + 512 * j ≤ n)
          (fun _ _ _ y _ => 2 - (intOf y).toNat)
        case atStart => exact ⟨0, m, rfl, by omega, by simp, by simp, rfl, rfl, by omega⟩
        case round =>
          obtain ⟨j, m', rfl, hj, rfl, rfl, rfl, rfl, hj2⟩ := hrel
          by_cases hj4 : j < 2
          · have hb : dbase (20 + j) = 1025 + 512 * j ∧ dbits (20 + j) = 9 := by
              have hc : j = 0 ∨ j = 1 := by omega
              rcases hc with rfl | rfl <;> decide +kernel
            have hb' : 20 + j = 29 ∨ dbase (20 + j + 1) = 1025 + 512 * (j + 1) := by
              have hc : j = 0 ∨ j = 1 := by omega
              rcases hc with rfl | rfl <;> decide +kernel
            have Hb := Lib.hid hb
            have Hb' := Lib.hid hb'
            clear hb hb'
            by_cases hlt : n < 1025 + 512 * (j + 1)
            · have hs : dsym n = 20 + j := dsym_eq (by omega) (by have := Hb.out.1; omega) (by have := Hb'.out; omega)
              have Hs := Lib.hid hs
              clear hs
              have d : decide ((n : Int) < 1025 + 512 * (j : Int) + 512) = true := by simp; omega
              go_wp2
              go_ret3
              exact ⟨ret_int3 (by rw [Hs.out]; omega) (by rw [Hs.out, Hb.out.1]; omega) (by rw [Hs.out, Hb.out.2]; rfl), _, rfl⟩
            · have d : decide ((n : Int) < 1025 + 512 * (j : Int) + 512) = false := by simp; omega
              go_wp2
              go_quiet (fail)
              go_wp2
              go_roundw
              case rel => exact ⟨j + 1, _, rfl, by omega, by go_num, by go_num, rfl, by go_num, by omega⟩
              case measure => simp [intOf]; omega
          · have hj' : j = 2 := by omega
            subst hj'
            go_wp2
            go_roundw
            case rel => exact ⟨m', rfl, .inr (.inr (.inr (.inr (.inr (.inr (.inr (.inr (.inr (.inl ⟨rfl, rfl, rfl, by omega⟩)))))))))⟩
            case measure => first | (simp [intOf]; done) | (simp [intOf]; omega)
      · go_wp2
        go_loopw [2, 3, 4, 12] (fun u v x y wr => ∃ (j m' : Nat), wr = w.drewN m' ∧ j ≤ 2 ∧ u = .int .i64 (22 + (j : Int)) ∧ v = .int .i64 (2049 + 1024 * (j : Int)) ∧ x = .int .i64 10 ∧ y = .int .i64 j ∧ 2049 + 1024 * j ≤ n)
          (fun _ _ _ y _ => 2 - (intOf y).toNat)
        case atStart => exact ⟨0, m, rfl, by omega, by simp, by simp, rfl, rfl, by omega⟩
        case round =>
          obtain ⟨j, m', rfl, hj, rfl, rfl, rfl, rfl, hj2⟩ := hrel
          by_cases hj4 : j < 2
          · have hb : dbase (22 + j) = 2049 + 1024 * j ∧ dbits (22 + j) = 10 := by
              have hc : j = 0 ∨ j = 1 := by omega
              rcases hc with rfl | rfl <;> decide +kernel
            have hb' : 22 + j = 29 ∨ dbase (22 + j + 1) = 2049 + 1024 * (j + 1) := by
              have hc : j = 0 ∨ j = 1 := by omega
              rcases hc with rfl | rfl <;> decide +kernel
            have Hb := Lib.hid hb
            have Hb' := Lib.hid hb'
            clear hb hb'
            by_cases hlt : n < 2049 + 1024 * (j + 1)
            · have hs : dsym n = 22 + j := dsym_eq (by omega) (by have := Hb.out.1; omega) (by have := Hb'.out; omega)
              have Hs := Lib.hid hs
              clear hs
              have d : decide ((n : Int) < 2049 + 1024 * (j : Int) + 1024) = true := by simp; omega
              go_wp2
              go_ret3
              exact ⟨ret_int3 (by rw [Hs.out]; omega) (by rw [Hs.out, Hb.out.1]; omega) (by rw [Hs.out, Hb.out.2]; rfl), _, rfl⟩
            · have d : decide ((n : Int) < 2049 + 1024 * (j : Int) + 1024) = false := by simp; omega
              go_wp2
              go_quiet (fail)
              go_wp2
              go_roundw
              case rel => exact ⟨j + 1, _, rfl, by omega, by go_num, by go_num, rfl, by go_num, by omega⟩
              case measure => simp [intOf]; omega
          · have hj' : j = 2 := by omega
            subst hj'
            go_wp2
            go_roundw
            case rel => exact ⟨m', rfl, .inr (.inr (.inr (.inr (.inr (.inr (.inr (.inr (.inr (.inr (.inl ⟨rfl, rfl, rfl, by omega⟩))))))))))⟩
            case measure => first | (simp [intOf]; done) | (simp [intOf]; omega)
      · go_wp2
        go_loopw [2, 3, 4, 12] (fun u v x y wr => ∃ (j m' : Nat), wr = w.drewN m' ∧ j ≤ 2 ∧ u = .int .i64 (24 + (j : Int)) ∧ v = .int .i64 (4097 + 2048 * (j : Int)) ∧ x = .int .i64 11 ∧ y = .int .i64 j ∧ 4097 + 2048 * j ≤ n)
          (fun _ _ _ y _ => 2 - (intOf y).toNat)
        case atStart => exact ⟨0, m, rfl, by omega, by simp, by simp, rfl, rfl, by omega⟩
        case round =>
          obtain ⟨j, m', rfl, hj, rfl, rfl, rfl, rfl, hj2⟩ := hrel
          by_cases hj4 : j < 2
          · have hb : dbase (24 + j) = 4097 + 2048 * j ∧ dbits (24 + j) = 11 := by
              have hc : j = 0 ∨ j = 1 := by omega
              rcases hc with rfl | rfl <;> decide +kernel
            have hb' : 24 + j = 29 ∨ dbase (24 + j + 1) = 4097 + 2048 * (j + 1) := by
              have hc : j = 0 ∨ j = 1 := by omega
              rcases hc with rfl | rfl <;> decide +kernel
            have Hb := Lib.hid hb
            have Hb' := Lib.hid hb'
            clear hb hb'
            by_cases hlt : n < 4097 + 2048 * (j + 1)
            · have hs : dsym n = 24 + j := dsym_eq (by omega) (by have := Hb.out.1; omega) (by have := Hb'.out; omega)
              have Hs := Lib.hid hs
              clear hs
              have d : decide ((n : Int) < 4097 + 2048 * (j : Int) + 2048) = true := by simp; omega
              go_wp2
              go_ret3
              exact ⟨ret_int3 (by rw [Hs.out]; omega) (by rw [Hs.out, Hb.out.1]; omega) (by rw [Hs.out, Hb.out.2]; rfl), _, rfl⟩
            · have d : decide ((n : Int) < 4097 + 2048 * (j : Int) + 2048) = false := by simp; omega
              go_wp2
              go_quiet (fail)
              go_wp2
              go_roundw
              case rel => exact ⟨j + 1, _, rfl, by omega, by go_num, by go_num, rfl, by go_num, by omega⟩
              case measure => simp [intOf]; omega
          · have hj' : j = 2 := by omega
            subst hj'
            go_wp2
            go_roundw
            case rel => exact ⟨m', rfl, .inr (.inr (.inr (.inr (.inr (.inr (.inr (.inr (.inr (.inr (.inr (.inl ⟨rfl, rfl, rfl, by omega⟩)))))))))))⟩
            case measure => first | (simp [intOf]; done) | (simp [intOf]; omega)
      · go_wp2
        go_loopw [2, 3, 4, 12] (fun u v x y wr => ∃ (j m' : Nat), wr = w.drewN m' ∧ j ≤ 2 ∧ u = .int .i64 (26 + (j : Int)) ∧ v = .int .i64 (8193 + 4096 * (j : Int)) ∧ x = .int .i64 12 ∧ y = .int .i64 j ∧ 8193 + 4096 * j ≤ n)
          (fun _ _ _ y _ => 2 - (intOf y).toNat)
        case atStart => exact ⟨0, m, rfl, by omega, by simp, by simp, rfl, rfl, by omega⟩
        case round =>
          obtain ⟨j, m', rfl, hj, rfl, rfl, rfl, rfl, hj2⟩ := hrel
          by_cases hj4 : j < 2
          · have hb : dbase (26 + j) = 8193 + 4096 * j ∧ dbits (26 + j) = 12 := by
              have hc : j = 0 ∨ j = 1 := by omega
              rcases hc with rfl | rfl <;> decide +kernel
            have hb' : 26 + j = 29 ∨ dbase (26 + j + 1) = 8193 + 4096 * (j + 1) := by
              have hc : j = 0 ∨ j = 1 := by omega
              rcases hc with rfl | rfl <;> decide +kernel
            have Hb := Lib.hid hb
            have Hb' := Lib.hid hb'
            clear hb hb'
            by_cases hlt : n < 8193 + 4096 * (j + 1)
            · have hs : dsym n = 26 + j := dsym_eq (by omega) (by have := Hb.out.1; omega) (by have := Hb'.out; omega)
              have Hs := Lib.hid hs
              clear hs
              have d : decide ((n : Int) < 8193 + 4096 * (j : Int) + 4096) = true := by simp; omega
              go_wp2
              go_ret3
              exact ⟨ret_int3 (by rw [Hs.out]; omega) (by rw [Hs.out, Hb.out.1]; omega) (by rw [Hs.out, Hb.out.2]; rfl), _, rfl⟩
            · have d : decide ((n : Int) < 8193 + 4096 * (j : Int) + 4096) = false := by simp; omega
              go_wp2
              go_quiet (fail)
              go_wp2
              go_roundw
              case rel => exact ⟨j + 1, _, rfl, by omega, by go_num, by go_num, rfl, by go_num, by omega⟩
              case measure => simp [intOf]; omega
          · have hj' : j = 2 := by omega
            subst hj'
            go_wp2
            go_roundw
            case rel => exact ⟨m', rfl, .inr (.inr (.inr (.inr (.inr (.inr (.inr (.inr (.inr (.inr (.inr (.inr (⟨rfl, rfl, rfl, by omega⟩))))))))))))⟩
            case measure => first | (simp [intOf]; done) | (simp [intOf]; omega)
      · go_wp2
        go_loopw [2, 3, 4, 12] (fun u v x y wr => ∃ (j m' : Nat), wr = w.drewN m' ∧ j ≤ 2 ∧ u = .int .i64 (28 + (j : Int)) ∧ v = .int .i64 (16385 + 8192 * (j : Int)) ∧ x = .int .i64 13 ∧ y = .int .i64 j ∧ 16385 + 8192 * j ≤ n)
          (fun _ _ _ y _ => 2 - (intOf y).toNat)
        case atStart => exact ⟨0, m, rfl, by omega, by simp, by simp, rfl, rfl, by omega⟩
        case round =>
          obtain ⟨j, m', rfl, hj, rfl, rfl, rfl, rfl, hj2⟩ := hrel
          by_cases hj4 : j < 2
          · have hb : dbase (28 + j) = 16385 + 8192 * j ∧ dbits (28 + j) = 13 := by
              have hc : j = 0 ∨ j = 1 := by omega
              rcases hc with rfl | rfl <;> decide +kernel
            have hb' : 28 + j = 29 ∨ dbase (28 + j + 1) = 16385 + 8192 * (j + 1) := by
              have hc : j = 0 ∨ j = 1 := by omega
              rcases hc with rfl | rfl <;> decide +kernel
            have Hb := Lib.hid hb
            have Hb' := Lib.hid hb'
            clear hb hb'
            by_cases hlt : n < 16385 + 8192 * (j + 1)
            · have hs : dsym n = 28 + j := dsym_eq (by omega) (by have := Hb.out.1; omega) (by have := Hb'.out; omega)
              have Hs := Lib.hid hs
              clear hs
              have d : decide ((n : Int) < 16385 + 8192 * (j : Int) + 8192) = true := by simp; omega
              go_wp2
              go_ret3
              exact ⟨ret_int3 (by rw [Hs.out]; omega) (by rw [Hs.out, Hb.out.1]; omega) (by rw [Hs.out, Hb.out.2]; rfl), _, rfl⟩
            · have d : decide ((n : Int) < 16385 + 8192 * (j : Int) + 8192) = false := by simp; omega
              go_wp2
              go_quiet (fail)
              go_wp2
              go_roundw
              case rel => exact ⟨j + 1, _, rfl, by omega, by go_num, by go_num, rfl, by go_num, by omega⟩
              case measure => simp [intOf]; omega
          · have hj' : j = 2 := by omega
            subst hj'
            go_wp2
            all_goals (exfalso; omega)

end Go.Proofs.Ytpfalaghggjbjaa
