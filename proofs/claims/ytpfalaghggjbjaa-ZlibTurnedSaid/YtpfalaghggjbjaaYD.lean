/-
  The walk of inflate's reader's stored.
  Conditions: as the reader's.
-/
import Derived.Test.YtpfalaghggjbjaaYC
namespace Go.Proofs.Ytpfalaghggjbjaa
open Go.RowKit

def UnitPost (p B : Nat) (a0 : Option Addr) (cap : Nat) (b : List UInt8) (m : Nat) (w : World) (a : Option Addr) (r : R Unit) (e : Ending) (w' : World) : Prop :=
  match r with
  | .ok _ t o => ROk p B a0 cap b m w a t o (.tuple #[]) e w'
  | .no er => RNo p B a0 cap b m w a er (.tuple #[]) e w'
theorem field_lt {n : Nat} {b : List UInt8} {m t : Nat} {o : List UInt8} {x t' : Nat} {o' : List UInt8} (h : fieldM n b m t o = .ok x t' o') : x < 2 ^ n := by
  have key : ∀ (n i y t : Nat) (o : List UInt8), y < 2 ^ i → fieldGo n i y b m t o = .ok x t' o' → x < 2 ^ (i + n) := by
    intro n
    induction n with
    | zero => intro i y t o hy h; cases h; exact hy
    | succ n ih =>
      intro i y t o hy h
      obtain ⟨z, t1, o1, e1, e2⟩ := bnd_inv h
      have hz : z < 2 := by
        unfold bitM at e1
        split at e1
        · rename_i hb; cases e1; exact (bit?_lt hb).2
        · cases e1
      have hm : z * 2 ^ i ≤ 1 * 2 ^ i := Nat.mul_le_mul_right _ (by omega)
      have := ih (i + 1) _ _ _ (by rw [Nat.pow_succ]; omega) e2
      rw [show i + (n + 1) = i + 1 + n by omega]
      exact this
  have := key n 0 0 t o (by decide) h
  rwa [Nat.zero_add] at this
theorem xor_all (n m : Nat) (hn : n < 65536) (hm : m < 65536) : (bits .xor .i64 (n : Int) (m : Int) != 65535) = !decide (n + m = 65535) := by
  have e : bits .xor .i64 (n : Int) (m : Int) = ((n ^^^ m : Nat) : Int) := by
    show IntKind.i64.wrap (((BitVec.ofInt 64 (n : Int) ^^^ BitVec.ofInt 64 (m : Int)).toNat : Nat) : Int) = _
    have h : (BitVec.ofInt 64 (n : Int) ^^^ BitVec.ofInt 64 (m : Int)).toNat = n ^^^ m := by
      rw [BitVec.toNat_xor, BitVec.toNat_ofInt, BitVec.toNat_ofInt]
      congr 1 <;> omega
    rw [h]
    have h2 : n ^^^ m < 2 ^ 16 := Nat.xor_lt_two_pow (by omega) (by omega)
    exact wrap_small_i64 (by omega) (by omega)
  rw [e]
  have h : n ^^^ m = 65535 ↔ n + m = 65535 := by
    constructor
    · intro h
      have h1 : m = n ^^^ 65535 := by rw [← h, ← Nat.xor_assoc, Nat.xor_self, Nat.zero_xor]
      have h2 : n ^^^ 65535 = 65535 - n := by
        have := BitVec.toNat_not (x := BitVec.ofNat 16 n)
        rw [← BitVec.xor_allOnes, BitVec.toNat_xor, BitVec.toNat_allOnes, BitVec.toNat_ofNat, Nat.mod_eq_of_lt (by omega)] at this
        omega
      omega
    · intro h
      have h2 : n ^^^ 65535 = 65535 - n := by
        have := BitVec.toNat_not (x := BitVec.ofNat 16 n)
        rw [← BitVec.xor_allOnes, BitVec.toNat_xor, BitVec.toNat_allOnes, BitVec.toNat_ofNat, Nat.mod_eq_of_lt (by omega)] at this
        omega
      have : m = n ^^^ 65535 := by omega
      rw [this, ← Nat.xor_assoc, Nat.xor_self, Nat.zero_xor]
  rw [Bool.eq_iff_iff]
  simp
  omega

section
variable {p B : Nat} {a0 : Option Addr} {cap : Nat} {b : List UInt8} {m : Nat} {w : World} {t : Nat} {o : List UInt8} {er : Nat} {a : Option Addr}
theorem tell_at_ok (x : UInt8) (y : Int) (hy : y = (x.toNat : Int)) (h : Rr p B a0 cap b m w t o 0 a) (hf : o.length < m) : Calls Try.prog 99 #[.pointer (some ⟨p, 0, none⟩), .int .u8 y] w (ROk p B a0 cap b m w a t (o ++ [x]) (.tuple #[])) := by
  subst hy; exact tell_ok x h hf
theorem tell_at_full (x : UInt8) (y : Int) (hy : y = (x.toNat : Int)) (h : Rr p B a0 cap b m w t o 0 a) (hf : m ≤ o.length) : Calls Try.prog 99 #[.pointer (some ⟨p, 0, none⟩), .int .u8 y] w (RNo p B a0 cap b m w a 3 (.tuple #[])) := by
  subst hy; exact tell_full x h hf
theorem Rr.pos (h : Rr p B a0 cap b m w t o er a) : 0 ≤ (t : Int) ∧ t ≤ 8589934592 := ⟨by omega, by have := h.tl; have := h.bl; omega⟩

set_option maxRecDepth 100000 in
set_option maxHeartbeats 4000000 in
theorem stored_live (h : Rr p B a0 cap b m w t o 0 a) : Calls Try.prog 85 #[.pointer (some ⟨p, 0, none⟩)] w (UnitPost p B a0 cap b m w a (storedM b m t o)) := by
  have htl := h.tl
  have ht9 := h.pos.2
  obtain ⟨c, c0, c1, c2, c3, c4, f1, f2, f4, -⟩ := h.cells
  obtain ⟨t1, ht1⟩ : ∃ t1, t1 = (t + 7) / 8 * 8 := ⟨_, rfl⟩
  have ht1l : t1 ≤ 8 * b.length := by omega
  have hR1 := h.set_t t1 (x := ((t : Int) + 7) / 8 * 8) (by omega) ht1l
  have hS1 : Stp p w a (w.setCell ⟨p, 1, none⟩ (.int .i64 (((t : Int) + 7) / 8 * 8))) a := (Stp.refl p w a).set 1 _
  have hσ : storedM b m t o = (bnd (fieldM 16) fun n => bnd (fieldM 16) fun k => if n + k = 65535 then repM n (bnd (fieldM 8) fun c => tellM (UInt8.ofNat c)) else failM 5) b m t1 o := by rw [ht1]; rfl
  clear ht1
  obtain ⟨σ, hσe⟩ : ∃ σ, σ = storedM b m t o := ⟨_, rfl⟩
  rw [← hσe] at hσ ⊢
  have Hσ := Lib.hid hσ
  clear hσ hσe
  have hF1 := field_live 16 hR1 (by omega)
  cases h1 : fieldM 16 b m t1 o with
  | no e =>
    have he := errs_field 16 h1
    rw [h1] at hF1
    have hσ := Hσ.out
    rw [bnd_no h1] at hσ
    subst hσ
    clear Hσ h1
    go_enter Try.func85, Try.ntmps85
    go_wp2_with (first
      | (go_at_call 84; have _t := hR2; go_must (refine (field_dead 16 hR2 he.1).mono ?_); rintro e2 w3 ⟨rfl, rfl⟩
         obtain ⟨cc, c01, c11, c21, c31, c41, f11, f21, f41, -⟩ := hR2.cells
         have d1 : ((e : Int) == 0) = false := by simp; omega)
      | (go_at_call 84; go_must (refine hF1.mono ?_); rintro e1 w2 ⟨a2, t2, o2, rfl, hS2, hR2⟩))
    go_loopw [4] (fun u wr => u = .int .i64 0 ∧ wr = w2) (fun _ _ => 0)
    case atStart => exact ⟨rfl, rfl⟩
    case round =>
      obtain ⟨rfl, rfl⟩ := hrel
      go_wp2
      go_end0
      exact ⟨a2, t2, o2, rfl, hS1.trans hS2, hR2⟩
  | ok n t2 o2 =>
    have hn := field_lt h1
    obtain ⟨rfl, rfl⟩ := fieldM_t h1
    rw [h1] at hF1
    have hσ := Hσ.out
    rw [bnd_ok h1] at hσ
    have Hσ := Lib.hid hσ
    clear hσ h1
    have hF2 := fun w a (h : Rr p B a0 cap b m w (t1 + 16) o2 0 a) => field_live 16 h (by omega)
    cases h2 : fieldM 16 b m (t1 + 16) o2 with
    | no e =>
      have he := errs_field 16 h2
      rw [h2] at hF2
      have hσ := Hσ.out
      rw [bnd_no h2] at hσ
      subst hσ
      clear Hσ h2
      go_enter Try.func85, Try.ntmps85
      go_wp2_with (first
        | (go_at_call 84; have _t := hR2; go_must (refine (hF2 _ _ hR2).mono ?_); rintro e1 w3 ⟨a3, t3, o3, rfl, hS3, hR3⟩
           obtain ⟨cc, c01, c11, c21, c31, c41, f11, f21, f41, -⟩ := hR3.cells
           have d1 : ((e : Int) == 0) = false := by simp; omega)
        | (go_at_call 84; go_must (refine hF1.mono ?_); rintro e1 w2 ⟨a2, rfl, hS2, hR2⟩))
      go_loopw [4] (fun u wr => u = .int .i64 0 ∧ wr = w3) (fun _ _ => 0)
      case atStart => exact ⟨rfl, rfl⟩
      case round =>
        obtain ⟨rfl, rfl⟩ := hrel
        by_cases h0 : 0 < n
        · have d0 : decide (0 < n) = true := by simpa using h0
          go_wp2
          go_end0
          exact ⟨a3, t3, o3, rfl, (hS1.trans hS2).trans hS3, hR3⟩
        · have d0 : decide (0 < n) = false := by simpa using h0
          go_wp2
          go_end0
          exact ⟨a3, t3, o3, rfl, (hS1.trans hS2).trans hS3, hR3⟩
    | ok k t3 o3 =>
      have hk := field_lt h2
      obtain ⟨rfl, rfl⟩ := fieldM_t h2
      rw [h2] at hF2
      have hσ := Hσ.out
      rw [bnd_ok h2] at hσ
      have hx := xor_all n k hn hk
      clear Hσ h2
      by_cases hnk : n + k = 65535
      · rw [if_pos hnk] at hσ
        have d2 : decide (n + k = 65535) = true := by simpa using hnk
        rw [d2] at hx
        simp only [Bool.not_true] at hx
        clear d2 hnk
        have Hσ := Lib.hid hσ
        clear hσ
        go_enter Try.func85, Try.ntmps85
        go_wp2_with (first
          | (go_at_call 84; have _t := hR2; go_must (refine (hF2 _ _ hR2).mono ?_); rintro e1 w3 ⟨a3, rfl, hS3, hR3⟩
             obtain ⟨cc, c01, c11, c21, c31, c41, f11, f21, f41, -⟩ := hR3.cells)
          | (go_at_call 84; go_must (refine hF1.mono ?_); rintro e1 w2 ⟨a2, rfl, hS2, hR2⟩))
        have hS := (hS1.trans hS2).trans hS3
        have hs0 := Hσ.out
        generalize t1 + 16 + 16 = T at *
        clear hF1 hF2 hS1 hS2 hS3 hR1 hR2 c0 c1 c2 c3 c4 f1 f2 f4 cc c01 c11 c21 c31 c41 f11 f21 f41 h
        go_loopw [4] (fun u wr => ∃ (i : Nat) (aq : Option Addr) (tq : Nat) (oq : List UInt8) (eq : Nat), u = .int .i64 i ∧ i ≤ n ∧ Stp p w a wr aq ∧ Rr p B a0 cap b m wr tq oq eq aq ∧
            ((eq = 0 ∧ repM (n - i) (bnd (fieldM 8) fun c => tellM (UInt8.ofNat c)) b m tq oq = σ) ∨ (eq ≠ 0 ∧ σ = .no eq))) (fun u _ => n - (intOf u).toNat)
        case atStart => exact ⟨0, a3, T, o3, 0, rfl, by omega, hS, hR3, .inl ⟨rfl, hs0.symm⟩⟩
        case round =>
          obtain ⟨i, aq, tq, oq, eq, rfl, hi, hS, hR, ⟨rfl, hF⟩ | ⟨hd, hF⟩⟩ := hrel
          · have HF := Lib.hid hF
            obtain ⟨cc, c01, c11, c21, c31, c41, f11, f21, f41, -⟩ := hR.cells
            clear hF
            by_cases hin : i < n
            · have d1 : decide (i < n) = true := by simpa using hin
              have hF8 := field_live 8 hR (by omega)
              have hrep : repM (n - i) (bnd (fieldM 8) fun c => tellM (UInt8.ofNat c)) b m tq oq = bnd (bnd (fieldM 8) fun c => tellM (UInt8.ofNat c)) (fun _ => repM (n - (i + 1)) (bnd (fieldM 8) fun c => tellM (UInt8.ofNat c))) b m tq oq := by
                obtain ⟨d, hd⟩ : ∃ d, n - i = d + 1 := ⟨n - i - 1, by omega⟩
                rw [hd, show n - (i + 1) = d by omega]; rfl
              have HF := Lib.hid (hrep.symm.trans HF.out)
              clear hrep
              cases h8 : fieldM 8 b m tq oq with
              | no e =>
                have he := errs_field 8 h8
                rw [h8] at hF8
                have hσ := HF.out
                rw [bnd_no (bnd_no h8)] at hσ
                have Hσ2 := Lib.hid hσ
                clear hσ h8 HF
                go_wp2_with (first
                  | (go_at_call 84; go_must (refine hF8.mono ?_); rintro e1 w4 ⟨a4, t4, o4, rfl, hS4, hR4⟩)
                  | (go_at_call 99; go_must (refine (tell_dead _ hR4 he.1).mono ?_); rintro e1 w5 ⟨rfl, rfl⟩))
                go_roundw
                case rel => exact ⟨i + 1, a4, t4, o4, e, by go_num, by omega, hS.trans hS4, hR4, .inr ⟨he.1, Hσ2.out.symm⟩⟩
                case measure => simp [intOf]; omega
              | ok x t4 o4 =>
                have hx8 := field_lt h8
                obtain ⟨rfl, rfl⟩ := fieldM_t h8
                rw [h8] at hF8
                by_cases hf : m ≤ o4.length
                · have e2 : (bnd (fieldM 8) fun c => tellM (UInt8.ofNat c)) b m tq o4 = .no 3 := by
                    rw [bnd_ok h8]; unfold tellM; rw [if_pos hf]
                  have hσ := HF.out
                  rw [bnd_no e2] at hσ
                  have Hσ2 := Lib.hid hσ
                  clear hσ h8 HF e2
                  go_wp2_with (first
                    | (go_at_call 84; go_must (refine hF8.mono ?_); rintro e1 w4 ⟨a4, rfl, hS4, hR4⟩)
                    | (go_at_call 99; go_must (refine (tell_at_full (UInt8.ofNat x) _ (by simp; omega) hR4 hf).mono ?_); rintro e1 w5 ⟨a5, t5, o5, rfl, hS5, hR5⟩))
                  go_roundw
                  case rel => exact ⟨i + 1, a5, t5, o5, 3, by go_num, by omega, (hS.trans hS4).trans hS5, hR5, .inr ⟨by decide, Hσ2.out.symm⟩⟩
                  case measure => simp [intOf]; omega
                · have e2 : (bnd (fieldM 8) fun c => tellM (UInt8.ofNat c)) b m tq o4 = .ok () (tq + 8) (o4 ++ [UInt8.ofNat x]) := by
                    rw [bnd_ok h8]; unfold tellM; rw [if_neg hf]
                  have hσ := HF.out
                  rw [bnd_ok e2] at hσ
                  have Hσ2 := Lib.hid hσ
                  have hf : o4.length < m := by omega
                  clear hσ h8 HF e2
                  go_wp2_with (first
                    | (go_at_call 84; go_must (refine hF8.mono ?_); rintro e1 w4 ⟨a4, rfl, hS4, hR4⟩)
                    | (go_at_call 99; go_must (refine (tell_at_ok (UInt8.ofNat x) _ (by simp; omega) hR4 hf).mono ?_); rintro e1 w5 ⟨a5, rfl, hS5, hR5⟩))
                  go_roundw
                  case rel => exact ⟨i + 1, a5, _, _, 0, by go_num, by omega, (hS.trans hS4).trans hS5, hR5, .inl ⟨rfl, Hσ2.out⟩⟩
                  case measure => simp [intOf]; omega
            · have hin : i = n := by omega
              subst hin
              go_wp2
              go_end0
              have e := HF.out
              rw [Nat.sub_self] at e
              rw [← e]
              exact ⟨aq, rfl, hS, hR⟩
          · obtain ⟨cc, c01, c11, c21, c31, c41, f11, f21, f41, -⟩ := hR.cells
            have d2 : ((eq : Int) == 0) = false := by simp; omega
            have HF := Lib.hid hF
            clear hF
            by_cases hin : i < n
            · have d1 : decide (i < n) = true := by simpa using hin
              go_wp2
              go_end0
              rw [HF.out]
              exact ⟨aq, tq, oq, rfl, hS, hR⟩
            · have d1 : decide (i < n) = false := by simpa using hin
              go_wp2
              go_end0
              rw [HF.out]
              exact ⟨aq, tq, oq, rfl, hS, hR⟩
      · rw [if_neg hnk] at hσ
        have d2 : decide (n + k = 65535) = false := by simpa using hnk
        rw [d2] at hx
        simp only [Bool.not_false] at hx
        clear d2 hnk
        subst hσ
        go_enter Try.func85, Try.ntmps85
        go_wp2_with (first
          | (go_at_call 84; have _t := hR2; go_must (refine (hF2 _ _ hR2).mono ?_); rintro e1 w3 ⟨a3, rfl, hS3, hR3⟩
             obtain ⟨cc, c01, c11, c21, c31, c41, f11, f21, f41, -⟩ := hR3.cells)
          | (go_at_call 84; go_must (refine hF1.mono ?_); rintro e1 w2 ⟨a2, rfl, hS2, hR2⟩)
          | (go_at_call 88; go_must (refine (fails_live 5 hR3).mono ?_); rintro e w4 ⟨rfl, hS4, hR4⟩
             obtain ⟨cc5, c05, c15, c25, c35, c45, f15, f25, f45, -⟩ := hR4.cells))
        go_loopw [4] (fun u wr => u = .int .i64 0 ∧ wr = w4) (fun _ _ => 0)
        case atStart => exact ⟨rfl, rfl⟩
        case round =>
          obtain ⟨rfl, rfl⟩ := hrel
          by_cases h0 : 0 < n
          · have d0 : decide (0 < n) = true := by simpa using h0
            go_wp2
            go_end0
            exact ⟨a3, _, _, rfl, ((hS1.trans hS2).trans hS3).trans hS4, hR4⟩
          · have d0 : decide (0 < n) = false := by simpa using h0
            go_wp2
            go_end0
            exact ⟨a3, _, _, rfl, ((hS1.trans hS2).trans hS3).trans hS4, hR4⟩
end
end Go.Proofs.Ytpfalaghggjbjaa
