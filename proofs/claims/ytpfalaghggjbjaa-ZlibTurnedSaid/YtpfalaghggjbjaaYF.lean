/-
  The walk of inflate's reader's coded.
  Conditions: as the reader's; codes that may be, which nobody writes meanwhile.
-/
import Derived.Test.YtpfalaghggjbjaaYE
namespace Go.Proofs.Ytpfalaghggjbjaa
open Go.RowKit

/-- How far the reader in block p is from its end (0: it has stopped). -/
def far (p n : Nat) (w : World) : Nat := match w.cell? ⟨p, 4, none⟩ with
  | some (.int _ 0) => match w.cell? ⟨p, 1, none⟩ with
    | some (.int _ t) => n + 1 - t.toNat
    | _ => 0
  | _ => 0
section
variable {p B : Nat} {a0 : Option Addr} {cap : Nat} {b : List UInt8} {m : Nat} {w : World} {t : Nat} {o : List UInt8} {er : Nat} {a : Option Addr}
theorem far_live (h : Rr p B a0 cap b m w t o 0 a) (n : Nat) : far p n w = n + 1 - t := by
  obtain ⟨c, c0, c1, c2, c3, c4, -⟩ := h.cells
  unfold far
  rw [c4, c1]
  rfl
theorem far_dead (h : Rr p B a0 cap b m w t o er a) (he : er ≠ 0) (n : Nat) : far p n w = 0 := by
  obtain ⟨c, c0, c1, c2, c3, c4, -⟩ := h.cells
  unfold far
  rw [c4]
  cases er with
  | zero => exact absurd rfl he
  | succ e => rfl

set_option maxRecDepth 100000 in
set_option maxHeartbeats 1000000 in
theorem coded_dead (v v' : Value) (h : Rr p B a0 cap b m w t o er a) (he : er ≠ 0) : Calls Try.prog 86 #[.pointer (some ⟨p, 0, none⟩), v, v'] w (Still w (.tuple #[])) := by
  obtain ⟨c, c0, c1, c2, c3, c4, f1, f2, f4, -⟩ := h.cells
  have d : ((er : Int) == 0) = false := by simp; omega
  go_enter Try.func86, Try.ntmps86
  go_wp2
  go_loopw [6] (fun _ wr => wr = w) (fun _ _ => 0)
  case atStart => rfl
  case round =>
    subst hrel
    go_wp2
    go_end0
    exact ⟨rfl, rfl⟩

set_option maxRecDepth 100000 in
set_option maxHeartbeats 4000000 in
theorem coded_live {aL aD : Option Addr} {nL cL nD cD : Nat} {L D : List Nat} (h : Rr p B a0 cap b m w t o 0 a) (hL : Code p w a aL nL cL L) (hD : Code p w a aD nD cD D) :
    Calls Try.prog 86 #[.pointer (some ⟨p, 0, none⟩), .slice aL nL cL, .slice aD nD cD] w (UnitPost p B a0 cap b m w a (codedGo L D lots b m t o)) := by
  have hbl := h.bl
  have hl : 8 * b.length - t < lots := by unfold lots; omega
  generalize lots = F at *
  obtain ⟨σ, hσ⟩ : ∃ σ, σ = codedGo L D F b m t o := ⟨_, rfl⟩
  rw [← hσ]
  have Hσ := Lib.hid hσ
  clear hσ
  go_enter Try.func86, Try.ntmps86
  go_wp2
  go_loopw [6] (fun _ wr => ∃ (f : Nat) (aq : Option Addr) (tq : Nat) (oq : List UInt8) (eq : Nat), Stp p w a wr aq ∧ Rr p B a0 cap b m wr tq oq eq aq ∧
      ((eq = 0 ∧ 8 * b.length - tq < f ∧ codedGo L D f b m tq oq = σ) ∨ (eq ≠ 0 ∧ σ = .no eq))) (fun _ wr => far p (8 * b.length) wr)
  case atStart => exact ⟨F, a, t, o, 0, Stp.refl _ _ _, h, .inl ⟨rfl, hl, Hσ.out.symm⟩⟩
  case round =>
    obtain ⟨f, aq, tq, oq, eq, hS, hR, ⟨rfl, hf, hF⟩ | ⟨hne, hF⟩⟩ := hrel
    · obtain ⟨cc, c01, c11, c21, c31, c41, f11, f21, f41, -⟩ := hR.cells
      have htl := hR.tl
      have hLq := hL.step hS
      have hDq := hD.step hS
      have hx1 := symbol_code hR hLq
      obtain ⟨g, rfl⟩ : ∃ g, f = g + 1 := ⟨f - 1, by omega⟩
      have hF : (bnd (symM L) fun s => if s = 256 then ret () else bnd (if s < 256 then tellM (UInt8.ofNat s) else pieceM D s) fun _ => codedGo L D g) b m tq oq = σ := hF
      have hfar := far_live hR (8 * b.length)
      cases hs : symM L b m tq oq with
      | no e =>
        have he := errs_sym L hs
        rw [hs] at hx1
        rw [bnd_no hs] at hF
        subst hF
        have d2 : ((e : Int) != 0) = true := by simp; omega
        go_wp2_with (go_at_call 100; go_must (refine hx1.mono ?_); rintro e1 w1 ⟨a1, t1, o1, rfl, hS1, hR1⟩
                     obtain ⟨cc1, c02, c12, c22, c32, c42, f12, f22, f42, -⟩ := hR1.cells)
        go_end0
        exact ⟨a1, t1, o1, rfl, hS.trans hS1, hR1⟩
      | ok s t1 o1 =>
        obtain ⟨rfl, hsl, hlt⟩ := sym_t hs
        have ht1 := (good_sym L).mono hs
        rw [hs] at hx1
        rw [bnd_ok hs] at hF
        have hL320 := hL.len
        have htl1 := ht1.2.1 htl
        clear ht1 hs
        have HF := Lib.hid hF
        have Hfar := Lib.hid hfar
        clear hF hfar
        by_cases h256 : s = 256
        · subst h256
          have hF := HF.out
          rw [if_pos rfl] at hF
          have HF := Lib.hid hF
          clear hF
          go_wp2_with (go_at_call 100; go_must (refine hx1.mono ?_); rintro e1 w1 ⟨a1, rfl, hS1, hR1⟩
                       obtain ⟨cc1, c02, c12, c22, c32, c42, f12, f22, f42, -⟩ := hR1.cells)
          go_end0
          rw [← HF.out]
          exact ⟨a1, rfl, hS.trans hS1, hR1⟩
        · have hF := HF.out
          rw [if_neg h256] at hF
          have d3 : ((s : Int) == 256) = false := by simp; omega
          by_cases hlt2 : s < 256
          · rw [if_pos hlt2] at hF
            have d4 : decide ((s : Int) < 256) = true := by simp; omega
            by_cases hfull : m ≤ o1.length
            · have e2 : tellM (UInt8.ofNat s) b m t1 o1 = .no 3 := by unfold tellM; rw [if_pos hfull]
              rw [bnd_no e2] at hF
              have HF := Lib.hid hF
              clear hF e2
              go_wp2_with (first
                | (go_at_call 100; go_must (refine hx1.mono ?_); rintro e1 w1 ⟨a1, rfl, hS1, hR1⟩
                   obtain ⟨cc1, c02, c12, c22, c32, c42, f12, f22, f42, -⟩ := hR1.cells)
                | (go_at_call 99; go_must (refine (tell_at_full (UInt8.ofNat s) _ (by simp; omega) hR1 hfull).mono ?_); rintro e1 w5 ⟨a5, t5, o5, rfl, hS5, hR5⟩))
              go_roundw
              case rel => exact ⟨g, a5, t5, o5, 3, (hS.trans hS1).trans hS5, hR5, .inr ⟨by decide, HF.out.symm⟩⟩
              case measure => rw [Hfar.out, far_dead hR5 (by decide)]; omega
            · have e2 : tellM (UInt8.ofNat s) b m t1 o1 = .ok () t1 (o1 ++ [UInt8.ofNat s]) := by unfold tellM; rw [if_neg hfull]
              rw [bnd_ok e2] at hF
              have HF := Lib.hid hF
              have hfull : o1.length < m := by omega
              clear hF e2
              go_wp2_with (first
                | (go_at_call 100; go_must (refine hx1.mono ?_); rintro e1 w1 ⟨a1, rfl, hS1, hR1⟩
                   obtain ⟨cc1, c02, c12, c22, c32, c42, f12, f22, f42, -⟩ := hR1.cells)
                | (go_at_call 99; go_must (refine (tell_at_ok (UInt8.ofNat s) _ (by simp; omega) hR1 hfull).mono ?_); rintro e1 w5 ⟨a5, rfl, hS5, hR5⟩))
              go_roundw
              case rel => exact ⟨g, a5, _, _, 0, (hS.trans hS1).trans hS5, hR5, .inl ⟨rfl, by omega, HF.out⟩⟩
              case measure => rw [Hfar.out, far_live hR5]; omega
          · rw [if_neg hlt2] at hF
            have d4 : decide ((s : Int) < 256) = false := by simp; omega
            have hx2 := fun w a (h : Rr p B a0 cap b m w t1 o1 0 a) (hD : Code p w a aD nD cD D) => copied_live (s := s) h hD (by omega) (by omega)
            cases hp : pieceM D s b m t1 o1 with
            | no e =>
              have he := errs_piece D s hp
              simp only [hp] at hx2
              rw [bnd_no hp] at hF
              have HF := Lib.hid hF
              clear hF hp
              go_wp2_with (first
                | (go_at_call 100; go_must (refine hx1.mono ?_); rintro e1 w1 ⟨a1, rfl, hS1, hR1⟩
                   obtain ⟨cc1, c02, c12, c22, c32, c42, f12, f22, f42, -⟩ := hR1.cells)
                | (go_at_call 101; go_must (refine (hx2 _ _ hR1 (hDq.step hS1)).mono ?_); rintro e1 w5 ⟨a5, t5, o5, rfl, hS5, hR5⟩))
              go_roundw
              case rel => exact ⟨g, a5, t5, o5, e, (hS.trans hS1).trans hS5, hR5, .inr ⟨he.1, HF.out.symm⟩⟩
              case measure => rw [Hfar.out, far_dead hR5 he.1]; omega
            | ok u t2 o2 =>
              have hm := (good_piece D s).mono hp
              simp only [hp] at hx2
              rw [bnd_ok hp] at hF
              have HF := Lib.hid hF
              obtain ⟨hm1, hm2, -⟩ := hm
              clear hF hp
              go_wp2_with (first
                | (go_at_call 100; go_must (refine hx1.mono ?_); rintro e1 w1 ⟨a1, rfl, hS1, hR1⟩
                   obtain ⟨cc1, c02, c12, c22, c32, c42, f12, f22, f42, -⟩ := hR1.cells)
                | (go_at_call 101; go_must (refine (hx2 _ _ hR1 (hDq.step hS1)).mono ?_); rintro e1 w5 ⟨a5, rfl, hS5, hR5⟩))
              go_roundw
              case rel => exact ⟨g, a5, _, _, 0, (hS.trans hS1).trans hS5, hR5, .inl ⟨rfl, by have := hm2 htl1; omega, HF.out⟩⟩
              case measure => rw [Hfar.out, far_live hR5]; omega
    · obtain ⟨cc, c01, c11, c21, c31, c41, f11, f21, f41, -⟩ := hR.cells
      have d : ((eq : Int) == 0) = false := by simp; omega
      have HF := Lib.hid hF
      clear hF
      go_wp2
      go_end0
      rw [HF.out]
      exact ⟨aq, tq, oq, rfl, hS, hR⟩
end
end Go.Proofs.Ytpfalaghggjbjaa
