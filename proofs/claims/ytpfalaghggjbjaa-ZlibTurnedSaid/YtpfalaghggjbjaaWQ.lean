/-
  The walks of sluicegateref05.Stored and deflate.Stored.
  Conditions: the slice reads as a list of bytes, no longer than 2^30.
-/
import Derived.Test.YtpfalaghggjbjaaWA
import Derived.Test.YtpfalaghggjbjaaSl
import Derived.Test.YtpfalaghggjbjaaPlS
import Derived.Deep.CutRange
namespace Go.Proofs.Ytpfalaghggjbjaa
open Go.RowKit

/-- 'It hands back bytes, in memory of its own; of what was there nothing has turned.' -/
def RetB (w : World) (bs : List UInt8) (e : Ending) (w' : World) : Prop :=
  ∃ a c, e = .returned (.slice a bs.length c) ∧ OB w' w.heap.size a bs.length c bs ∧ Below w.heap.size w w'

theorem xor_not (n : Nat) (hn : n ≤ 65535) : bits BinOp.xor IntKind.i64 (if IntKind.i64.signed = true then -1 else 9223372036854775807) (n : Int) = -(n : Int) - 1 := by
  have hs : IntKind.i64.signed = true := rfl
  rw [if_pos hs]
  show IntKind.i64.wrap (((BitVec.ofInt 64 (-1) ^^^ BitVec.ofInt 64 (n : Int)).toNat : Nat) : Int) = _
  have e : BitVec.ofInt 64 (-1) ^^^ BitVec.ofInt 64 (n : Int) = ~~~ (BitVec.ofInt 64 (n : Int)) := by
    have : BitVec.ofInt 64 (-1) = BitVec.allOnes 64 := by decide
    rw [this, BitVec.allOnes_xor]
  rw [e, BitVec.toNat_not, BitVec.toNat_ofInt]
  have e2 : ((n : Int) % ((2 ^ 64 : Nat) : Int)).toNat = n := by omega
  rw [e2]
  have hs : IntKind.i64.signed = true := rfl
  simp [IntKind.wrap, IntKind.bits, hs]
  omega
theorem head_bytes (fin n : Nat) (hf : fin ≤ 1) (hn : n ≤ 65535) : (#[Value.int .u8 (fin : Int), .int .u8 ((n : Int) % 256), .int .u8 ((n : Int) / 256), .int .u8 (bits BinOp.xor IntKind.i64 (if IntKind.i64.signed = true then -1 else 9223372036854775807) (n : Int) % 256), .int .u8 (bits BinOp.xor IntKind.i64 (if IntKind.i64.signed = true then -1 else 9223372036854775807) (n : Int) / 256 % 256)] : Array Value).toList = cB (head5 fin n) := by
  rw [xor_not n hn]
  simp only [cB, head5, List.map_cons, List.map_nil]
  congr
  all_goals simp
  all_goals omega

set_option maxRecDepth 100000 in
set_option maxHeartbeats 2000000 in
theorem refStored_any (a : Option Addr) (N cap : Nat) (l : List UInt8) (w : World) (hl : l.length ≤ 1073741824) (h : RB w a N cap l) :
    Calls Try.prog 23 #[.slice a N cap] w (RetB w (stored l)) := by
  obtain rfl := RB.len h
  have hcap := h.le
  go_enter Try.func23, Try.ntmps23
  go_wp2
  go_loopw [3, 4] (fun u v wr => ∃ (p f c : Nat) (b : Option Addr) (bs : List UInt8), u = .slice b bs.length c ∧ v = .int .i64 p ∧ p ≤ l.length ∧ (p = 0 ∨ p < l.length) ∧ bs.length ≤ 6 * p ∧ l.length - p < f ∧ OB wr w.heap.size b bs.length c bs ∧ bs ++ storedF f (l.drop p) = stored l ∧ Below w.heap.size w wr)
    (fun _ v _ => l.length + 1 - (intOf v).toNat)
  case atStart => exact ⟨0, l.length + 1, 0, none, [], rfl, rfl, by omega, by omega, by simp, by omega, World.ownsRow_nil _ _ _ _, rfl, Below.refl _ _⟩
  case round =>
    obtain ⟨p, f, c, b, bs, rfl, rfl, hp, hp0, hbl, hf, hown, hsp, hbel⟩ := hrel
    have Hsp := Lib.hid hsp
    clear hsp
    have hbb := fun g hg => (hown.blk g hg).1
    have hsz := hbel.size
    obtain ⟨f, rfl⟩ : ∃ g, f = g + 1 := ⟨f - 1, by omega⟩
    have hr := rd_below0 h hbel
    obtain ⟨n, em, hn1, hn2, hn3⟩ : ∃ n : Nat, (if (l.length : Int) - p < 65535 then (l.length : Int) - p else 65535) = (n : Int) ∧ n ≤ 65535 ∧ p + n ≤ l.length ∧ (l.length ≤ p + 65535 → p + n = l.length) := by
      by_cases h : l.length - p < 65535
      · exact ⟨l.length - p, by rw [if_pos (by omega)]; omega, by omega, by omega, by omega⟩
      · exact ⟨65535, by rw [if_neg (by omega)]; rfl, by omega, by omega, by omega⟩
    have hq : ((p : Int) == 0) = true ∨ (((p : Int) == 0) = false ∧ decide ((p : Int) < l.length) = true) := by
      rcases hp0 with h | h
      · left; simp; omega
      · by_cases h0 : p = 0
        · left; simp; omega
        · right; simp; omega
    clear hp0
    go_upto_region 3 with fail
    go_cut [14] from 7 to 55 (fun u wx => u = .bool true ∧ wr = wx)
    case first =>
      rcases hq with d0 | ⟨d0, d1⟩
      · go_wp2
        go_meet
        exact ⟨rfl, rfl⟩
      · go_wp2
        go_meet
        exact ⟨by simp at d1; simp; omega, rfl⟩
    case rest =>
      obtain ⟨rfl, rfl⟩ := hcut
      obtain ⟨fin, hfin⟩ : ∃ fin : Nat, fin = if l.length ≤ p + 65535 then 1 else 0 := ⟨_, rfl⟩
      go_upto_if 25 with fail
      go_cut [6] from 7 to 55 (fun u wx => u = .int .u8 fin ∧ wr = wx)
      case first =>
        by_cases hlast : l.length ≤ p + 65535
        · have e5 : decide ((l.length : Int) ≤ (p : Int) + n) = true := by simp; omega
          go_wp2
          go_meet
          exact ⟨by rw [hfin, if_pos hlast]; rfl, rfl⟩
        · have e5 : decide ((l.length : Int) ≤ (p : Int) + n) = false := by simp; omega
          go_wp2
          go_meet
          exact ⟨by rw [hfin, if_neg hlast]; rfl, rfl⟩
      case rest =>
        obtain ⟨rfl, rfl⟩ := hcut
        have hf1 : fin ≤ 1 := by rw [hfin]; split <;> omega
        have Hfin := Lib.hid hfin
        clear hfin
        go_wp2_with (first
          | (refine wpList_slLH rfl _ _ _ rfl a l.length cap p (p + n) .i64 .i64 _ _ rfl rfl rfl rfl (by omega) (by omega) (by omega) ?_; rw [show p + n - p = n by omega])
          | (at_builtin; have _t := hgrew1; go_must (refine wpList_appB rfl _ _ rfl w.heap.size a1 (bs.length + 5) c1 _ rfl hown1 _ n _ ((l.drop p).take n) rfl rS (by omega) (by omega) ?_); intro a2 c2 w2 hown2 hgrew2)
          | (at_builtin; go_must (refine wpList_appB rfl _ _ rfl w.heap.size b bs.length c bs rfl (hown.alloc _) _ 5 5 (head5 fin n) rfl (rb_news rfl (head_bytes fin n hf1 hn1) rfl (by omega)) (by omega) (by simp; omega) ?_); intro a1 c1 w1 hown1 hgrew1
             have hb1 := below_grew (hbel.alloc hsz _) hgrew1 (by simp; omega) hbb
             have hsz1 := hb1.size
             have rS := rb_lh (rd_below0 h hb1) (lo := p) (hi := p + n) (by omega) hn2
             rw [show p + n - p = n by omega] at rS))
        all_goals
          have hnl : ((l.drop p).take n).length = n := by simp; omega
          have hb2 := below_grew hb1 hgrew2 hsz1 (fun g hg => (hown1.blk g hg).1)
          have hlen : (bs ++ head5 fin n ++ (l.drop p).take n).length = bs.length + 5 + n := by simp only [List.length_append, hnl]; simp [head5]
          have hq2 : fin = 1 ∨ fin = 0 := by omega
        · have hf1' : fin = 1 := by rcases hq2 with h | h <;> simp_all
          have hlast : l.length ≤ p + 65535 := by
            have := Hfin.out
            by_cases h : l.length ≤ p + 65535
            · exact h
            · rw [if_neg h] at this; omega
          have hpn := hn3 hlast
          have hst : bs ++ head5 fin n ++ (l.drop p).take n = stored l := by
            rw [← Hsp.out, storedF_last (by simp; omega), hf1', List.take_of_length_le (by simp; omega), List.append_assoc]
            have e : (l.drop p).length = n := by simp; omega
            rw [e]
          rw [hst] at hlen hown2
          go_ret
          exact ⟨a2, c2, by rw [hlen]; rfl, by rw [hlen]; exact hown2, hb2⟩
        · have hf1' : fin = 0 := by rcases hq2 with h | h <;> simp_all
          have hlast : ¬ l.length ≤ p + 65535 := by
            have := Hfin.out
            by_cases h : l.length ≤ p + 65535
            · rw [if_pos h] at this; omega
            · exact h
          have hn65 : n = 65535 := by
            rw [if_neg (by omega)] at em; omega
          have hst : bs ++ head5 fin n ++ (l.drop p).take n ++ storedF f (l.drop (p + n)) = stored l := by
            rw [← Hsp.out, storedF_more (by simp; omega), hf1', hn65, List.drop_drop]
            simp only [List.append_assoc]
          refine ⟨⟨p + n, f, c2, a2, bs ++ head5 fin n ++ (l.drop p).take n, by rw [hlen], by go_num, by omega, by omega, by rw [hlen]; omega, by omega, by rw [hlen]; exact hown2, hst, hb2⟩, by simp [intOf]; omega⟩
end Go.Proofs.Ytpfalaghggjbjaa
