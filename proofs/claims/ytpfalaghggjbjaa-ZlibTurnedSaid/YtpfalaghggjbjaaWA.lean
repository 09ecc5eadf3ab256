/-
  The walks of the small readers: deflate.same, sluicegateref05.longest, sluicegatekit.SameBytes.
  Conditions: the slices read as lists of bytes; the places lie within them.
-/
import Derived.Test.YtpfalaghggjbjaaBase
namespace Go.Proofs.Ytpfalaghggjbjaa
open Go.RowKit

/-- What is read from memory that was there stays, where only new memory is written. -/
theorem rd_below0 {w w' : World} {a : Option Addr} {n cap sz : Nat} {xs : List Value} (h : Rd w a n cap sz xs) (hb : Below w.heap.size w w') : Rd w' a n cap sz xs := by
  refine ⟨h.len, h.le, h.small, ?_⟩
  rcases h.at' with h0 | ⟨b, off, rfl, hc⟩
  · exact .inl h0
  · exact .inr ⟨b, off, rfl, fun j hj => cell_below (hc j hj) hb⟩

theorem run_str {w : World} {a : Option Addr} {n cap : Nat} {l : List UInt8} (h : RB w a n cap l) : (convert 22 9 (.slice a n cap)).run Try.prog w = .ok (.string ⟨l.toArray⟩) w := by
  obtain rfl := RB.len h
  rcases h.at' with h0 | ⟨b, off, rfl, hc⟩
  · obtain rfl : l = [] := List.eq_nil_of_length_eq_zero h0
    cases a with
    | none => show (convert 22 9 (.slice none 0 cap)).run Try.prog w = _; rw [run_convert_bytes_string w 22 9 5 none 0 cap Try.underlying22 (by kernel_rfl) (by kernel_rfl)]; simp [Conv.bytesToString]; rfl
    | some a => exact run_convert_bytes_back w 22 9 5 a cap [] Try.underlying22 (by kernel_rfl) (by kernel_rfl) (by simp)
  · exact run_convert_bytes_back w 22 9 5 ⟨b, off, none⟩ cap l Try.underlying22 (by kernel_rfl) (by kernel_rfl) fun j hj => by
      rw [Addr.add_lit, hc j (by simpa using hj)]
      simp [cB]

set_option maxRecDepth 100000 in
set_option maxHeartbeats 400000 in
theorem same_any (a : Option Addr) (N cap : Nat) (l : List UInt8) (i k : Nat) (w : World) (hl : l.length ≤ 140737488355328) (h : RB w a N cap l) (hi : i ≤ k) (hk : k ≤ l.length) :
    Calls Try.prog 52 #[.slice a N cap, .int .i64 i, .int .i64 k] w fun e w' => e = .returned (.int .i64 (longest l i k : Nat)) ∧ ∃ m, w' = w.drewN m := by
  obtain rfl := RB.len h
  obtain ⟨b, off, hidx, hc⟩ := Rd.open h 22 5 Try.underlying22 (by kernel_rfl)
  have hc' : ∀ j, j < l.length → w.cell? ⟨b, off + j, none⟩ = some (.int .u8 (at8 l j)) := fun j hj => by rw [hc j (by simpa using hj), cB_get]
  clear hc h
  go_enter Try.func52, Try.ntmps52
  go_wp2
  go_loopw [7] (fun v wr => ∃ n : Nat, n ≤ 258 ∧ v = .int .i64 n ∧ shared l i k (258 - n) n = longest l i k ∧ ∃ m, wr = w.drewN m) (fun v _ => 258 - (intOf v).toNat)
  case atStart => exact ⟨0, by omega, rfl, rfl, 0, rfl⟩
  case round =>
    obtain ⟨n, hn, rfl, hs, m, rfl⟩ := hrel
    have Hs := Lib.hid hs
    clear hs
    by_cases h1 : n < 258
    · have d1 : decide ((n : Int) < 258) = true := by simp; omega
      by_cases h2 : k + n < l.length
      · have e1 := hc' (i + n) (by omega)
        have e2 := hc' (k + n) (by omega)
        have d2 : decide ((k : Int) + n < l.length) = true := by simp; omega
        go_wp2
        go_quiet (fail)
        go_wp2
        · have he : l.getD (i + n) 0 = l.getD (k + n) 0 := (at8_eq l _ _).1 (by simpa using ‹(at8 l (i + n) == at8 l (k + n)) = true›)
          go_roundw
          case rel => exact ⟨n + 1, by omega, by go_num, by rw [← shared_yes h1 h2 he]; exact Hs.out, _, rfl⟩
          case measure => simp [intOf]; omega
        · have he : ¬ l.getD (i + n) 0 = l.getD (k + n) 0 := fun e => by have := (at8_eq l _ _).2 e; simp_all
          go_ret
          exact ⟨ret_int (by rw [← Hs.out, shared_no (.inr fun h => he h.2) hn]), drs _ _ _⟩
      · have d2 : decide ((k : Int) + n < l.length) = false := by simp; omega
        go_wp2
        go_quiet (fail)
        go_wp2
        go_ret
        exact ⟨ret_int (by rw [← Hs.out, shared_no (.inr fun h => h2 h.1) hn]), drs _ _ _⟩
    · have d1 : decide ((n : Int) < 258) = false := by simp; omega
      go_wp2
      go_quiet (fail)
      go_wp2
      go_ret
      exact ⟨ret_int (by rw [← Hs.out, shared_no (.inl (by omega)) hn]), drs _ _ _⟩

set_option maxRecDepth 100000 in
set_option maxHeartbeats 400000 in
theorem longest_any (a : Option Addr) (N cap : Nat) (l : List UInt8) (i k back : Nat) (w : World) (hl : l.length ≤ 140737488351232) (h : RB w a N cap l) (hb : k = i + back) (hk : k ≤ l.length) :
    Calls Try.prog 53 #[.slice a N cap, .int .i64 k, .int .i64 back] w fun e w' => e = .returned (.int .i64 (longest l i k : Nat)) ∧ ∃ m, w' = w.drewN m := by
  obtain rfl := RB.len h
  obtain ⟨b, off, hidx, hc⟩ := Rd.open h 22 5 Try.underlying22 (by kernel_rfl)
  have hc' : ∀ j, j < l.length → w.cell? ⟨b, off + j, none⟩ = some (.int .u8 (at8 l j)) := fun j hj => by rw [hc j (by simpa using hj), cB_get]
  clear hc h
  have Hb := Lib.hid hb
  have hb1 : i + back ≤ k := by omega
  have hb2 : k ≤ i + back := by omega
  clear hb
  go_enter Try.func53, Try.ntmps53
  go_wp2
  go_loopw [7] (fun v wr => ∃ n : Nat, n ≤ 258 ∧ v = .int .i64 n ∧ shared l i k (258 - n) n = longest l i k ∧ ∃ m, wr = w.drewN m) (fun v _ => 258 - (intOf v).toNat)
  case atStart => exact ⟨0, by omega, rfl, rfl, 0, rfl⟩
  case round =>
    obtain ⟨n, hn, rfl, hs, m, rfl⟩ := hrel
    have Hs := Lib.hid hs
    clear hs
    by_cases h1 : n < 258
    · have d1 : decide ((n : Int) < 258) = true := by simp; omega
      by_cases h2 : k + n < l.length
      · have e1 := hc' (k + n - back) (by omega)
        have e2 := hc' (k + n) (by omega)
        have d2 : decide ((k : Int) + n < l.length) = true := by simp; omega
        go_wp2
        go_quiet (fail)
        go_wp2
        · have he : l.getD (i + n) 0 = l.getD (k + n) 0 := by
            have h3 : at8 l (k + n) = at8 l (k + n - back) := by simpa using ‹(at8 l (k + n) == at8 l (k + n - back)) = true›
            rw [show k + n - back = i + n by omega] at h3
            exact (at8_eq l _ _).1 h3.symm
          go_roundw
          case rel => exact ⟨n + 1, by omega, by go_num, by rw [← shared_yes h1 h2 he]; exact Hs.out, _, rfl⟩
          case measure => simp [intOf]; omega
        · have he : ¬ l.getD (i + n) 0 = l.getD (k + n) 0 := fun e => by
            have h3 := (at8_eq l _ _).2 e
            rw [show i + n = k + n - back by omega] at h3
            simp_all
          go_ret
          exact ⟨ret_int (by rw [← Hs.out, shared_no (.inr fun h => he h.2) hn]), drs _ _ _⟩
      · have d2 : decide ((k : Int) + n < l.length) = false := by simp; omega
        go_wp2
        go_quiet (fail)
        go_wp2
        go_ret
        exact ⟨ret_int (by rw [← Hs.out, shared_no (.inr fun h => h2 h.1) hn]), drs _ _ _⟩
    · have d1 : decide ((n : Int) < 258) = false := by simp; omega
      go_wp2
      go_quiet (fail)
      go_wp2
      go_ret
      exact ⟨ret_int (by rw [← Hs.out, shared_no (.inl (by omega)) hn]), drs _ _ _⟩

set_option maxHeartbeats 400000 in
theorem sameBytes_any (a b : Option Addr) (n m c d : Nat) (l k : List UInt8) (w : World) (h : RB w a n c l) (h' : RB w b m d k) :
    Calls Try.prog 21 #[.slice a n c, .slice b m d] w fun e w' => e = .returned (.bool (decide (l = k))) ∧ w = w' := by
  have e1 := run_str h
  have e2 := run_str h'
  clear h h'
  go_enter Try.func21, Try.ntmps21
  go_wp2
  go_ret
  exact ⟨ret_bool (by rw [Bool.eq_iff_iff]; simp), rfl⟩
end Go.Proofs.Ytpfalaghggjbjaa
