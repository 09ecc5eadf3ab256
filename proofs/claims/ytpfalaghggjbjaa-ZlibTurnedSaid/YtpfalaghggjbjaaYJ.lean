/-
  The walk of inflate's reader's blocks.
  Conditions: as the reader's.
-/
import Derived.Test.YtpfalaghggjbjaaYI
import Derived.Test.YtpfalaghggjbjaaWS
import Derived.Deep.RegionLaw
import Derived.Deep.CutBlock
namespace Go.Proofs.Ytpfalaghggjbjaa
open Go.RowKit

def bk (x : Blk) : List Value := [.int .i64 (x.kind : Int), .bool x.last, .int .i64 (x.at_ : Int), .int .i64 (x.out : Int)]
def cK (l : List Blk) : List Value := l.flatMap bk
@[simp] theorem length_cK (l : List Blk) : (cK l).length = l.length * 4 := by
  induction l with
  | nil => rfl
  | cons p l ih => simp only [cK, List.flatMap_cons, List.length_append] at ih ⊢; rw [ih]; simp [bk]; omega
theorem cK_append (l m : List Blk) : cK (l ++ m) = cK l ++ cK m := by simp [cK]
theorem cK_one (x : Blk) : cK [x] = bk x := by simp [cK]
theorem one_cK (l : List Blk) : ∀ u ∈ cK l, u.oneCell' = true := by
  intro u hu
  simp only [cK, List.mem_flatMap, bk] at hu
  obtain ⟨c, _, hu⟩ := hu
  simp at hu
  rcases hu with rfl | rfl | rfl | rfl <;> rfl
def RK (w : World) (a : Option Addr) (n cap : Nat) (l : List Blk) : Prop := Rd w a n cap 4 (cK l)
def OK4 (w : World) (B : Nat) (a : Option Addr) (n cap : Nat) (l : List Blk) : Prop := w.ownsRow B 42 4 (.slice a n cap) n (cK l)
theorem info42 : (Try.prog.info? 42).map (fun i => (i.zero, i.size, i.bytes)) = some (some (.agg #[.int .i64 0, .bool false, .int .i64 0, .int .i64 0]), 4, 32) := by kernel_rfl
theorem OK4.rk {w : World} {B n cap : Nat} {a : Option Addr} {l : List Blk} (h : OK4 w B a n cap l) : RK w a n cap l := rd_of_own h
theorem rk_new (w : World) (g : Nat) (x : Blk) (e : Nat) (c : Array Value) (hg : w.heap.size = g) (hc : c = (bk x).toArray) : RK (w.alloc (.cells c e)) (some ⟨g, 0, none⟩) 1 1 [x] := by
  subst hg hc
  have := rd_new w (bk x).toArray e 1 4 rfl (by omega)
  unfold RK
  rw [cK_one]
  exact this
/-- append on an []api.Block of the call's own, as a step of a region that draws. -/
theorem step_appK {w : World} {ops : Array Oper} {o : Oper} {A : Act} {Q : Exit → Act → World → Prop} {K : Act → World → Prop} {E : Prop} (hgd : o.guard = none) (s x : Operand) (ho : o.op = .call { callee := .builtin .append, args := #[s, x], argTypes := #[38, 38] })
    (B : Nat) (a : Option Addr) (n cap : Nat) (xs : List Value) (hs : A.eval s = .slice a n cap) (hown : w.ownsRow B 42 4 (.slice a n cap) n xs)
    (sa : Option Addr) (cs : Nat) (news : List Value) (hx : A.eval x = .slice sa 1 cs) (hsrc : Rd w sa 1 cs 4 news) (h1 : ∀ u ∈ news, u.oneCell' = true)
    (hb : n + 1 ≤ 1099511627776) (hbase : B ≤ w.heap.size)
    (h : ∀ a' c' w', w'.ownsRow B 42 4 (.slice a' (n + 1) c') (n + 1) (xs ++ news) → Grew w w' a a' → K (A.put o.dst (.slice a' (n + 1) c')) w') :
    if Region.wanted o (yielded ops A.tmps) = true then Oper.wp Try.prog o A w K Q else E := by
  have hw : Region.wanted o (yielded ops A.tmps) = true := by simp [Region.wanted, hgd]
  rw [if_pos hw]
  obtain ⟨i, hi, hz0, hz1, hz2⟩ := info_parts info42
  obtain ⟨a', c', w', hr, h2, h3, h4⟩ := append_run (P := Try.prog) w B 38 o.type 42 i _ 4 32 Try.underlying38 hi hz0 hz1 hz2 rfl (by decide) a n cap xs hown sa 1 cs news hsrc h1 (by omega) (by omega) hbase
  unfold Oper.wp execOp
  simp only [ho, resolve, invoke, builtin, Sem.run_bind, Sem.run_pure, Result.andThen_ok, List.map_toArray, List.map_cons, List.map_nil, hs, hx, hr]
  refine h a' c' w' h2 ⟨by rw [ownBlock_slice] at h3; exact h3, ?_⟩
  rw [ownBlock_slice, ownBlock_slice] at h4
  rcases h4 with h4 | ⟨g, rfl, hg⟩
  · exact .inl h4
  · exact .inr ⟨g, rfl, hg⟩

section
variable {p B : Nat} {a0 : Option Addr} {cap : Nat} {b : List UInt8} {m : Nat} {w : World} {t : Nat} {o : List UInt8} {er : Nat} {a : Option Addr}
theorem Rr.c4 (h : Rr p B a0 cap b m w t o er a) : w.cell? ⟨p, 4, none⟩ = some (.int .i64 (er : Int)) := by obtain ⟨c, c0, c1, c2, c3, c4, -⟩ := h.cells; exact c4
theorem Rr.setX {w0 : World} {a0' : Option Addr} {t0 er0 X e : Nat} {o0 : List UInt8} {C : Array Value} (hR : Rr p B a0 cap b m w t o er a) (h0 : Rr p B a0 cap b m w0 t0 o0 er0 a0') (hS : Stp p w0 a0' w a) (hX : w.heap[X]? = some (.cells C e (0, 0))) (he : e ≠ 5) (hge : w0.heap.size ≤ X) (j : Nat) (v : Value) :
    Stp p w0 a0' (w.setCell ⟨X, j, none⟩ v) a ∧ Rr p B a0 cap b m (w.setCell ⟨X, j, none⟩ v) t o er a := by
  obtain ⟨c, h1, h2⟩ := hR.cell
  have hlt := h0.lt
  have hmd : Mod (fun k => k = X) w (w.setCell ⟨X, j, none⟩ v) := (Mod.refl _ _).setCell _ _ (fun _ => rfl)
  have hSt := hS.then hmd (fun k hk e => by omega)
  exact ⟨hSt, hR.of_mod hmd (fun e => by omega) (fun g hg e => by rw [e] at hg; exact own_ne_cells h2 hX (fun h => he h.symm) hg) (fun w2 a2 h3 => h0.src w2 a2 (hSt.trans h3))⟩
theorem row_stp {w' : World} {a' al : Option Addr} {H n c : Nat} {xs : List Value} (hR : Rr p B a0 cap b m w t o er a) (ho : w.ownsRow H 42 4 (.slice al n c) n xs) (hp : p < H) (hS : Stp p w a w' a') : w'.ownsRow H 42 4 (.slice al n c) n xs := by
  obtain ⟨c, h1, h2⟩ := hR.cell
  refine own_mod ho hS.mod fun g hg hh => ?_
  rcases hh with rfl | hh
  · have := (own_blk ho _ hg).1; omega
  · exact own_ne_own ho h2 (by decide) hg hh
def lam (v : Value) (n : Nat) : Nat := match v with
  | .bool true => 0
  | _ => n
def BlkPost (p B : Nat) (a0 : Option Addr) (cap : Nat) (b : List UInt8) (m : Nat) (w : World) (a : Option Addr) (r : R (List Blk)) (e : Ending) (w' : World) : Prop :=
  match r with
  | .ok l t o => ∃ al cl a', e = .returned (.slice al l.length cl) ∧ OK4 w' w.heap.size al l.length cl l ∧ Stp p w a w' a' ∧ Rr p B a0 cap b m w' t o 0 a'
  | .no er => ∃ v, RNo p B a0 cap b m w a er v e w'

set_option maxRecDepth 100000 in
set_option maxHeartbeats 8000000 in
theorem blocks_live (h : Rr p B a0 cap b m w t o 0 a) (hlen : m ≤ 1073741824) : Calls Try.prog 57 #[.pointer (some ⟨p, 0, none⟩)] w (BlkPost p B a0 cap b m w a (blocksGo lots [] b m t o)) := by
  have hbl := h.bl
  have hplt := h.lt
  have hl : 8 * b.length - t < lots := by unfold lots; omega
  obtain ⟨σ, hσ⟩ : ∃ σ, σ = blocksGo lots [] b m t o := ⟨_, rfl⟩
  rw [← hσ]
  have Hσ := Lib.hid hσ
  clear hσ
  go_enter Try.func57, Try.ntmps57
  go_wp2
  go_loopw [3, 4] (fun u v wr => ∃ (f nl : Nat) (xs : List Value) (al : Option Addr) (cl : Nat) (la : Bool) (ar : Option Addr) (tr : Nat) (or : List UInt8) (er : Nat), u = .slice al nl cl ∧ v = .bool la ∧ wr.ownsRow w.heap.size 42 4 (.slice al nl cl) nl xs ∧ Stp p w a wr ar ∧ Rr p B a0 cap b m wr tr or er ar ∧
      ((er = 0 ∧ la = false ∧ 8 * b.length - tr < f ∧ nl ≤ tr ∧ ∃ lb : List Blk, nl = lb.length ∧ xs = cK lb ∧ blocksGo f lb b m tr or = σ) ∨ (er = 0 ∧ la = true ∧ ∃ lb : List Blk, nl = lb.length ∧ xs = cK lb ∧ σ = .ok lb tr or) ∨ (er ≠ 0 ∧ σ = .no er))) (fun _ v wr => lam v (far p (8 * b.length) wr))
  case atStart => exact ⟨lots, 0, [], none, 0, false, a, t, o, 0, rfl, rfl, World.ownsRow_nil _ _ _ _, Stp.refl _ _ _, h, .inl ⟨rfl, rfl, hl, by omega, [], rfl, rfl, Hσ.out.symm⟩⟩
  case round =>
    obtain ⟨f, nl, xs, al, cl, la, ar, tr, or, er, rfl, rfl, ho, hS, hR, hst⟩ := hrel
    obtain ⟨cc, c01, c11, c21, c31, c41, f11, f21, f41, -⟩ := hR.cells
    rcases hst with ⟨rfl, rfl, hf, hnl, lb, hlb, hxs, hF⟩ | ⟨rfl, rfl, lb, hlb, hxs, hF⟩ | ⟨hne, hF⟩
    · have Hlb := Lib.hid hlb
      have Hxs := Lib.hid hxs
      clear hlb hxs
      have hfar := far_live hR (8 * b.length)
      have Hfar := Lib.hid hfar
      have htl := hR.tl
      have hml := hR.ml
      have hol := hR.ol
      obtain ⟨g, rfl⟩ : ∃ g, f = g + 1 := ⟨f - 1, by omega⟩
      have hF : (bnd blockM fun x => if x.last then ret (lb ++ [x]) else blocksGo g (lb ++ [x])) b m tr or = σ := hF
      have hB : blockM b m tr or = (bnd (fieldM 1) fun l => bnd (fieldM 2) fun k => bnd (bodyM k) fun _ => bnd outM fun o' => ret ⟨k, decide (l = 1), tr, o'.length - or.length⟩) b m tr or := rfl
      have hB2 : ∀ r, blockM b m tr or = r → bndR r (fun x t' o' => (if x.last then ret (lb ++ [x]) else blocksGo g (lb ++ [x])) b m t' o') = σ := fun r hr => by rw [← hr]; exact hF
      have HB2 := Lib.hid hB2
      have HB := Lib.hid hB
      clear hfar hF hB hB2 Hσ
      have hR1 := hR.alloc (.cells #[.int .i64 0, .bool false, .int .i64 (tr : Int), .int .i64 0] 42)
      have hX1 := heap_alloc_new wr (.cells #[.int .i64 0, .bool false, .int .i64 (tr : Int), .int .i64 0] 42)
      have hS1 : Stp p wr ar (wr.alloc (.cells #[.int .i64 0, .bool false, .int .i64 (tr : Int), .int .i64 0] 42)) ar := (Stp.refl _ _ _).alloc _
      have hx1 := field_live 1 hR1 (by omega)
      have hXw : w.heap.size ≤ wr.heap.size := hS.mod.size
      obtain ⟨ccb, c0b, c1b, c2b, c3b, c4b, f1b, f2b, f4b, -⟩ := hR1.cells
      have hxp : ∀ (w' : World) (C : Array Value) (a' : Option Addr) (t' e' : Nat) (o' : List UInt8), w'.heap[wr.heap.size]? = some (.cells C 42 (0, 0)) → Rr p B a0 cap b m w' t' o' e' a' → ∀ w'' a'', Stp p w' a' w'' a'' → w''.heap[wr.heap.size]? = some (.cells C 42 (0, 0)) := fun w' C a' t' e' o' hX hR' w'' a'' hS' => by
        obtain ⟨c', h1', h2'⟩ := hR'.cell
        have := hR.lt
        exact heap_mod hS'.mod hX (fun hh => hh.elim (fun e => by omega) (fun hb => own_ne_cells h2' hX (by decide) hb))
      cases f1 : fieldM 1 b m tr or with
      | no e =>
        have he := errs_field 1 f1
        rw [f1] at hx1
        have hσ := HB2.out (.no e) (by rw [HB.out]; exact bnd_no f1)
        have HF := Lib.hid hσ
        have d2 : ((e : Int) != 0) = true := by simp; omega
        clear hσ f1
        go_wp2_with (first
          | (go_at_call 84; first
              | (have _t := hR2; go_must (refine (field_dead 2 (hY _).2 he.1).mono ?_); rintro e2 w3 ⟨rfl, rfl⟩)
              | (go_must (refine hx1.mono ?_); rintro e1 w2 ⟨a2, t2, o2, rfl, hS2, hR2⟩
                 have hX2 := hxp _ _ _ _ _ _ hX1 hR1 _ _ hS2
                 have x2 := cell_at (j := 1) hX2 rfl
                 have fx2 := free_at (j := 1) hX2
                 have hY := fun v => hR2.setX h ((hS.trans hS1).trans hS2) hX2 (by decide) hXw 1 v
                 have hZ := fun v v' => (hY v).2.setX h (hY v).1 (heap_set (j := 1) hX2 v) (by decide) hXw 0 v'
                 have x3 := fun v => cell_at (j := 0) (heap_set (j := 1) hX2 v) rfl
                 have fx3 := fun v => free_at (j := 0) (heap_set (j := 1) hX2 v)
                 have e4 := fun v v' => (hZ v v').2.c4)))
        go_ret
        have hσ : R.no e = σ := HF.out
        rw [← hσ]
        exact ⟨_, a2, t2, o2, rfl, (hZ _ _).1, (hZ _ _).2⟩
      | ok lv t1 o1 =>
        have hlv := field_lt f1
        obtain ⟨rfl, rfl⟩ := fieldM_t f1
        rw [f1] at hx1
        have hx2 := fun w a (h : Rr p B a0 cap b m w (tr + 1) o1 0 a) => field_live 2 h (by omega)
        cases f2 : fieldM 2 b m (tr + 1) o1 with
        | no e =>
          have he := errs_field 2 f2
          simp only [f2] at hx2
          have hσ := HB2.out (.no e) (by rw [HB.out, bnd_ok f1]; exact bnd_no f2)
          have HF := Lib.hid hσ
          have d2 : ((e : Int) != 0) = true := by simp; omega
          clear hσ f1 f2
          go_wp2_with (first
            | (go_at_call 84; first
                | (have _t := hR2; go_must (refine (hx2 _ _ (hY _).2).mono ?_); rintro e2 w3 ⟨a3, t3, o3, rfl, hS3, hR3⟩
                   have hX3 := hxp _ _ _ _ _ _ (heap_set (j := 1) hX2 _) (hY _).2 _ _ hS3
                   have x3 := cell_at (j := 0) hX3 rfl
                   have fx3 := free_at (j := 0) hX3
                   have hZ := fun v => hR3.setX h ((hY _).1.trans hS3) hX3 (by decide) hXw 0 v
                   have e4 := fun v => (hZ v).2.c4)
                | (go_must (refine hx1.mono ?_); rintro e1 w2 ⟨a2, rfl, hS2, hR2⟩
                   have hX2 := hxp _ _ _ _ _ _ hX1 hR1 _ _ hS2
                   have x2 := cell_at (j := 1) hX2 rfl
                   have fx2 := free_at (j := 1) hX2
                   have hY := fun v => hR2.setX h ((hS.trans hS1).trans hS2) hX2 (by decide) hXw 1 v)))
          go_ret
          have hσ : R.no e = σ := HF.out
          rw [← hσ]
          exact ⟨_, a3, t3, o3, rfl, (hZ _).1, (hZ _).2⟩
        | ok kv t2 o2 =>
          have hkv := field_lt f2
          obtain ⟨rfl, rfl⟩ := fieldM_t f2
          simp only [f2] at hx2
          have hB3 : blockM b m tr o2 = (bnd (bodyM kv) fun _ => bnd outM fun o' => ret ⟨kv, decide (lv = 1), tr, o'.length - o2.length⟩) b m (tr + 1 + 2) o2 := by rw [HB.out, bnd_ok f1, bnd_ok f2]
          have HB3 := Lib.hid hB3
          clear hB3 f1 f2
          go_upto_block 2 with (first
            | (go_at_call 84; first
                | (have _t := hR2; go_must (refine (hx2 _ _ (hY _).2).mono ?_); rintro e2 w3 ⟨a3, rfl, hS3, hR3⟩
                   have hX3 := hxp _ _ _ _ _ _ (heap_set (j := 1) hX2 _) (hY _).2 _ _ hS3
                   have x3 := cell_at (j := 0) hX3 rfl
                   have fx3 := free_at (j := 0) hX3
                   have hZ := fun v => hR3.setX h ((hY _).1.trans hS3) hX3 (by decide) hXw 0 v
                   have hX4 := fun v => heap_set (j := 0) hX3 v
                   have x4 := fun v => cell_at (j := 0) (hX4 v) rfl
                   have e4 := fun v => (hZ v).2.c4)
                | (go_must (refine hx1.mono ?_); rintro e1 w2 ⟨a2, rfl, hS2, hR2⟩
                   have hX2 := hxp _ _ _ _ _ _ hX1 hR1 _ _ hS2
                   have x2 := cell_at (j := 1) hX2 rfl
                   have fx2 := free_at (j := 1) hX2
                   have hY := fun v => hR2.setX h ((hS.trans hS1).trans hS2) hX2 (by decide) hXw 1 v)))
          obtain ⟨bl, hbl2⟩ : ∃ bl : Bool, bl = ((lv : Int) == 1) := ⟨_, rfl⟩
          rw [← hbl2]
          have hX5 := hX4 (.int .i64 (kv : Int))
          obtain ⟨hS5, hR5⟩ := hZ (.int .i64 (kv : Int))
          have hnX : blk al ≠ some wr.heap.size := fun e => by have := (own_blk ho _ e).2; omega
          have ho5 := own_set (row_stp (hY (.bool bl)).2 (own_set (row_stp hR1 (World.ownsRow.alloc ho _) hplt hS2) (q := ⟨wr.heap.size, 1, none⟩) hnX (.bool bl)) hplt (by rw [hbl2]; exact hS3)) (q := ⟨wr.heap.size, 0, none⟩) hnX (.int .i64 (kv : Int))
          rw [← hbl2] at hX5
          have hblN : bl = decide (lv = 1) := by rw [hbl2, Bool.eq_iff_iff]; simp; omega
          have HblN := Lib.hid hblN
          clear hblN hbl2 hX4 x4 e4 hZ hY x3 fx3 x2 fx2 hx1 hx2 c0b c1b c2b c3b c4b f1b f2b f4b c01 c11 c21 c31 c41 f11 f21 f41
          generalize w3.setCell ⟨wr.heap.size, 0, none⟩ (.int .i64 (kv : Int)) = w5 at *
          obtain ⟨β, hβ⟩ : ∃ β : R Unit, β = bodyM kv b m (tr + 1 + 2) o2 := ⟨_, rfl⟩
          have Hβ := Lib.hid hβ
          clear hβ
          go_cut [7, 8] from 42 to 79 (fun _ _ wx => ∃ (a6 : Option Addr) (t6 : Nat) (o6 : List UInt8) (e6 : Nat), Stp p w5 a3 wx a6 ∧ Rr p B a0 cap b m wx t6 o6 e6 a6 ∧
              ((e6 = 0 ∧ β = .ok () t6 o6) ∨ (e6 ≠ 0 ∧ β = .no e6)))
          case first =>
            have hp5 := hR5.lt
            rcases (show kv = 0 ∨ kv = 1 ∨ kv = 2 ∨ kv = 3 by omega) with rfl | rfl | rfl | rfl
            · have hβ : β = storedM b m (tr + 1 + 2) o2 := by rw [Hβ.out]; rfl
              have hx := stored_live hR5
              cases hs : storedM b m (tr + 1 + 2) o2 with
              | no e =>
                have he := errs_stored hs
                rw [hs] at hx
                rw [hs] at hβ
                have Hb := Lib.hid hβ
                clear hs hβ HB3
                go_wp2_with (go_at_call 85; go_must (refine hx.mono ?_); rintro e1 w6 ⟨a6, t6, o6, rfl, hS6, hR6⟩)
                go_meet
                exact ⟨a6, t6, o6, e, hS6, hR6, .inr ⟨he.1, Hb.out⟩⟩
              | ok u t6 o6 =>
                rw [hs] at hx
                rw [hs] at hβ
                have Hb := Lib.hid hβ
                clear hs hβ HB3
                go_wp2_with (go_at_call 85; go_must (refine hx.mono ?_); rintro e1 w6 ⟨a6, rfl, hS6, hR6⟩)
                go_meet
                exact ⟨a6, t6, o6, 0, hS6, hR6, .inl ⟨rfl, Hb.out⟩⟩
            · have hβ : β = codedGo fixL fixD lots b m (tr + 1 + 2) o2 := by rw [Hβ.out]; unfold bodyM; rw [if_neg (by decide), if_pos rfl]
              have hT := fun w => tab59 w
              have hcL : fixL.length = 288 := fixL_length
              have hcD : fixD.length = 32 := fixD_length
              have hcl := fun (w : World) (aL aD : Option Addr) (nL cL nD cD : Nat) (a : Option Addr) (hR : Rr p B a0 cap b m w (tr + 1 + 2) o2 0 a) (hL : Code p w a aL nL cL fixL) (hD : Code p w a aD nD cD fixD) => coded_live hR hL hD
              have hfL : ∀ x ∈ fixL, x ≤ 15 := fun x hx => Nat.le_trans (fixL_le x hx) (by decide)
              have hfD : ∀ x ∈ fixD, x ≤ 15 := fun x hx => Nat.le_trans (fixD_le x hx) (by decide)
              have hoL := fixL_ok
              have hoD := fixD_ok
              have herr : ∀ e, codedGo fixL fixD lots b m (tr + 1 + 2) o2 = .no e → e ≠ 0 ∧ e < 100 := fun e h => errs_coded _ _ _ h
              clear HB3
              clear Hβ
              generalize lots = F at *
              generalize fixL = L at *
              generalize fixD = D at *
              have HcL := Lib.hid hcL
              have HcD := Lib.hid hcD
              have HfL := Lib.hid hfL
              have HfD := Lib.hid hfD
              have HoL := Lib.hid hoL
              have HoD := Lib.hid hoD
              clear hcL hcD hfL hfD hoL hoD
              cases hs : codedGo L D F b m (tr + 1 + 2) o2 with
              | no e =>
                have he := herr e hs
                simp only [hs] at hcl
                rw [hs] at hβ
                have Hb := Lib.hid hβ
                clear hs herr hβ
                go_wp2_with (first
                  | (go_at_call 59; go_must (refine (hT _).mono ?_); rintro e1 w6 ⟨aL, cL, aD, cD, rfl, hoL, hoD, hb6⟩
                     have hR6 := hR5.new hb6
                     have hCL : Code p w6 a3 aL 288 cL L := ⟨fun w' a' h' => OI.ri (code_of_own hR6 hoL hp5 w' a' h'), by rw [HcL.out]; decide, HfL.out, HoL.out⟩
                     have hCD : Code p w6 a3 aD 32 cD D := ⟨fun w' a' h' => OI.ri (code_of_own hR6 hoD hp5 w' a' h'), by rw [HcD.out]; decide, HfD.out, HoD.out⟩)
                  | (go_at_call 86; go_must (refine (hcl _ _ _ _ _ _ _ _ hR6 hCL hCD).mono ?_); rintro e1 w7 ⟨a7, t7, o7, rfl, hS7, hR7⟩))
                go_meet
                exact ⟨a7, t7, o7, e, (Stp.of_below hb6).trans hS7, hR7, .inr ⟨he.1, Hb.out⟩⟩
              | ok u t6 o6 =>
                simp only [hs] at hcl
                rw [hs] at hβ
                have Hb := Lib.hid hβ
                clear hs herr hβ
                go_wp2_with (first
                  | (go_at_call 59; go_must (refine (hT _).mono ?_); rintro e1 w6 ⟨aL, cL, aD, cD, rfl, hoL, hoD, hb6⟩
                     have hR6 := hR5.new hb6
                     have hCL : Code p w6 a3 aL 288 cL L := ⟨fun w' a' h' => OI.ri (code_of_own hR6 hoL hp5 w' a' h'), by rw [HcL.out]; decide, HfL.out, HoL.out⟩
                     have hCD : Code p w6 a3 aD 32 cD D := ⟨fun w' a' h' => OI.ri (code_of_own hR6 hoD hp5 w' a' h'), by rw [HcD.out]; decide, HfD.out, HoD.out⟩)
                  | (go_at_call 86; go_must (refine (hcl _ _ _ _ _ _ _ _ hR6 hCL hCD).mono ?_); rintro e1 w7 ⟨a7, rfl, hS7, hR7⟩))
                go_meet
                exact ⟨a7, _, _, 0, (Stp.of_below hb6).trans hS7, hR7, .inl ⟨rfl, Hb.out⟩⟩
            · have hβ : β = (bnd dynM fun p => codedGo p.1 p.2 lots) b m (tr + 1 + 2) o2 := by rw [Hβ.out]; unfold bodyM; rw [if_neg (by decide), if_neg (by decide), if_pos rfl]
              have hx := dynamic_live hR5
              clear HB3
              cases hd : dynM b m (tr + 1 + 2) o2 with
              | no e =>
                have he := errs_dyn hd
                rw [hd] at hx
                rw [bnd_no hd] at hβ
                have Hb := Lib.hid hβ
                clear hd hβ
                go_wp2_with (first
                  | (go_at_call 87; go_must (refine hx.mono ?_); rintro e1 w6 ⟨v6, v6', a6, t6, o6, rfl, hS6, hR6⟩)
                  | (go_at_call 86; go_must (refine (coded_dead _ _ hR6 he.1).mono ?_); rintro e1 w7 ⟨rfl, rfl⟩))
                go_meet
                exact ⟨a6, t6, o6, e, hS6, hR6, .inr ⟨he.1, Hb.out⟩⟩
              | ok LD t6 o6 =>
                obtain ⟨L, D⟩ := LD
                rw [hd] at hx
                rw [bnd_ok hd] at hβ
                clear hd Hβ
                have hcl := fun (w : World) (aL aD : Option Addr) (nL cL nD cD : Nat) (a : Option Addr) (hR : Rr p B a0 cap b m w t6 o6 0 a) (hL : Code p w a aL nL cL L) (hD : Code p w a aD nD cD D) => coded_live hR hL hD
                have herr : ∀ e, codedGo L D lots b m t6 o6 = .no e → e ≠ 0 ∧ e < 100 := fun e h => errs_coded _ _ _ h
                generalize lots = F at *
                cases hs : codedGo L D F b m t6 o6 with
                | no e =>
                  have he := herr e hs
                  simp only [hs] at hcl
                  rw [hs] at hβ
                  have Hb := Lib.hid hβ
                  clear hs herr hβ
                  go_wp2_with (first
                    | (go_at_call 87; go_must (refine hx.mono ?_); rintro e1 w6 ⟨aL, nL, cL, aD, nD, cD, a6, rfl, hCL, hCD, hS6, hR6⟩)
                    | (go_at_call 86; go_must (refine (hcl _ _ _ _ _ _ _ _ hR6 hCL hCD).mono ?_); rintro e1 w7 ⟨a7, t7, o7, rfl, hS7, hR7⟩))
                  go_meet
                  exact ⟨a7, t7, o7, e, hS6.trans hS7, hR7, .inr ⟨he.1, Hb.out⟩⟩
                | ok u t7 o7 =>
                  simp only [hs] at hcl
                  rw [hs] at hβ
                  have Hb := Lib.hid hβ
                  clear hs herr hβ
                  go_wp2_with (first
                    | (go_at_call 87; go_must (refine hx.mono ?_); rintro e1 w6 ⟨aL, nL, cL, aD, nD, cD, a6, rfl, hCL, hCD, hS6, hR6⟩)
                    | (go_at_call 86; go_must (refine (hcl _ _ _ _ _ _ _ _ hR6 hCL hCD).mono ?_); rintro e1 w7 ⟨a7, rfl, hS7, hR7⟩))
                  go_meet
                  exact ⟨a7, _, _, 0, hS6.trans hS7, hR7, .inl ⟨rfl, Hb.out⟩⟩
            · have hβ : β = .no 5 := by rw [Hβ.out]; rfl
              have Hb := Lib.hid hβ
              clear hβ HB3
              go_wp2_with (go_at_call 88; go_must (refine (fails_live 5 hR5).mono ?_); rintro e1 w6 ⟨rfl, hS6, hR6⟩)
              go_meet
              exact ⟨a3, _, _, 5, hS6, hR6, .inr ⟨by decide, Hb.out⟩⟩
          case rest =>
            obtain ⟨a6, t6, o6, e6, hS6, hR6, hst6⟩ := hcut
            obtain ⟨w6, hw6⟩ : ∃ w6, w6 = wc := ⟨_, rfl⟩
            rw [← hw6] at hS6 hR6 ⊢
            clear hw6
            have hX6 := hxp _ _ _ _ _ _ hX5 hR5 _ _ hS6
            have ho6 := row_stp hR5 ho5 hplt hS6
            have hz6 := hS5.mod.size
            have hz6' := hS6.mod.size
            have hXz := lt_at hX6
            obtain ⟨cc6, c06, c16, c26, c36, c46, f16, f26, f46, -⟩ := hR6.cells
            have hol6 := hR6.ol
            have x63 := cell_at (j := 3) hX6 rfl
            have fx63 := free_at (j := 3) hX6
            have hU := fun v => hR6.setX h (hS5.trans hS6) hX6 (by decide) hXw 3 v
            have hX7 := fun v => heap_set (j := 3) hX6 v
            have ho7 := fun v => own_set ho6 (q := ⟨wr.heap.size, 3, none⟩) hnX v
            have hst6 := Lib.hid hst6
            go_upto_region 19 with fail
            obtain ⟨z, hz⟩ : ∃ z : Int, z = (o6.length : Int) - o2.length := ⟨_, rfl⟩
            rw [← hz]
            have hX8 := hX7 (.int .i64 z)
            have hR8 := (hU (.int .i64 z)).2
            have hS8 := (hU (.int .i64 z)).1
            have ho8 := ho7 (.int .i64 z)
            have Hz := Lib.hid hz
            have hz8 : (w6.setCell ⟨wr.heap.size, 3, none⟩ (.int .i64 z)).heap.size = w6.heap.size := by simp [World.setCell]
            clear hz hX7 hU ho7 x63 fx63 c06 c16 c26 c36 c46 f16 f26 f46 hX6 ho6 hX5 ho5 hR6
            generalize w6.setCell ⟨wr.heap.size, 3, none⟩ (.int .i64 z) = w8 at *
            have hX8 : w8.heap[wr.heap.size]? = some (.cells #[.int .i64 (kv : Int), .bool bl, .int .i64 (tr : Int), .int .i64 z] 42 (0, 0)) := hX8
            have y0 := cell_at (j := 0) hX8 rfl
            have y1 := cell_at (j := 1) hX8 rfl
            have y2 := cell_at (j := 2) hX8 rfl
            have y3 := cell_at (j := 3) hX8 rfl
            have k0 := fun o => cell_at (j := 0) (heap_alloc hX8 o) rfl
            have k1 := fun o => cell_at (j := 1) (heap_alloc hX8 o) rfl
            have k2 := fun o => cell_at (j := 2) (heap_alloc hX8 o) rfl
            have k3 := fun o => cell_at (j := 3) (heap_alloc hX8 o) rfl
            have hnl9 : nl ≤ 8589934592 := by omega
            have hbase : w.heap.size ≤ w8.heap.size := by omega
            go_region_held3 (fun w' => w'.cell? ⟨wr.heap.size, 0, none⟩ = some (.int .i64 (kv : Int)) ∧ w'.cell? ⟨wr.heap.size, 1, none⟩ = some (.bool bl) ∧ w'.cell? ⟨wr.heap.size, 2, none⟩ = some (.int .i64 (tr : Int)) ∧ w'.cell? ⟨wr.heap.size, 3, none⟩ = some (.int .i64 z))
              (first | go_keep | exact ⟨k0 _, k1 _, k2 _, k3 _⟩ | exact ⟨q0, q1, q2, q3⟩)
              ((refine step_appK rfl (.tmp 74) (.tmp 76) rfl w.heap.size al nl cl xs (by simp [Act.eval]) (by exact World.ownsRow.alloc ho8 _) (some ⟨w8.heap.size, 0, none⟩) 1 [.int .i64 (kv : Int), .bool bl, .int .i64 (tr : Int), .int .i64 z] (by simp [Act.eval]) (by exact rd_drewN (rd_new w8 #[.int .i64 (kv : Int), .bool bl, .int .i64 (tr : Int), .int .i64 z] 42 1 4 rfl (by omega)) 1) (by intro u hu; simp at hu; rcases hu with rfl | rfl | rfl | rfl <;> rfl) (by omega) (by simp; omega) ?_; intro aA cA wA hoA hgA
                have hXA := heap_grew hgA (p := wr.heap.size) (by exact heap_alloc hX8 _) hnX
                have q0 := cell_at (j := 0) hXA rfl
                have q1 := cell_at (j := 1) hXA rfl
                have q2 := cell_at (j := 2) hXA rfl
                have q3 := cell_at (j := 3) hXA rfl))
            go_wp2
            have hmA : Mod (fun k => blk al = some k) w8 wA := (((Mod.refl _ w8).alloc _).drew).trans hgA.mod (fun _ _ h => h) (fun _ _ h => h)
            have hSA : Stp p w a wA a6 := hS8.then hmA (fun q hq e => by have := (own_blk ho8 q e).1; omega)
            have hRA : Rr p B a0 cap b m wA t6 o6 e6 a6 := by
              obtain ⟨c', h1', h2'⟩ := hR8.cell
              exact hR8.of_mod hmA (fun e => by have := (own_blk ho8 p e).1; omega) (fun q hq e => own_ne_own h2' ho8 (by decide) hq e) (fun w2 a2 h2 => h.src w2 a2 (hSA.trans h2))
            rcases hst6.out with ⟨rfl, hbo⟩ | ⟨hne6, hbo⟩
            · have hok : bodyM kv b m (tr + 1 + 2) o2 = .ok () t6 o6 := by rw [← Hβ.out]; exact hbo
              have hmono := (good_body kv).mono hok
              have htlA := hRA.tl
              have hblk : blockM b m tr o2 = .ok ⟨kv, decide (lv = 1), tr, o6.length - o2.length⟩ t6 o6 := by rw [HB3.out, bnd_ok hok]; rfl
              have hfin := HB2.out _ hblk
              have hzN : z = ((o6.length - o2.length : Nat) : Int) := by rw [Hz.out]; omega
              have hxs2 : xs ++ [.int .i64 (kv : Int), .bool bl, .int .i64 (tr : Int), .int .i64 z] = cK (lb ++ [⟨kv, decide (lv = 1), tr, o6.length - o2.length⟩]) := by
                rw [cK_append, cK_one, ← Hxs.out, hzN, HblN.out]; rfl
              by_cases hlv1 : lv = 1
              · have hbt : bl = true := by rw [HblN.out]; simpa using hlv1
                have hfin : (if decide (lv = 1) = true then ret (lb ++ [⟨kv, decide (lv = 1), tr, o6.length - o2.length⟩]) else blocksGo g (lb ++ [⟨kv, decide (lv = 1), tr, o6.length - o2.length⟩])) b m t6 o6 = σ := hfin
                rw [if_pos (by simpa using hlv1)] at hfin
                refine ⟨⟨0, nl + 1, _, aA, cA, bl, a6, t6, o6, 0, rfl, rfl, hoA, hSA, hRA, .inr (.inl ⟨rfl, hbt, _, by simp [Hlb.out], hxs2, hfin.symm⟩)⟩, ?_⟩
                rw [hbt]
                show 0 < far p (8 * b.length) wr
                rw [Hfar.out]; omega
              · have hbt : bl = false := by rw [HblN.out]; simpa using hlv1
                have hfin : (if decide (lv = 1) = true then ret (lb ++ [⟨kv, decide (lv = 1), tr, o6.length - o2.length⟩]) else blocksGo g (lb ++ [⟨kv, decide (lv = 1), tr, o6.length - o2.length⟩])) b m t6 o6 = σ := hfin
                rw [if_neg (by simpa using hlv1)] at hfin
                refine ⟨⟨g, nl + 1, _, aA, cA, bl, a6, t6, o6, 0, rfl, rfl, hoA, hSA, hRA, .inl ⟨rfl, hbt, by omega, by omega, _, by simp [Hlb.out], hxs2, hfin⟩⟩, ?_⟩
                rw [hbt]
                show far p (8 * b.length) wA < far p (8 * b.length) wr
                have := hRA.tl
                rw [Hfar.out, far_live hRA]; omega
            · have hno : bodyM kv b m (tr + 1 + 2) o2 = .no e6 := by rw [← Hβ.out]; exact hbo
              have hblk : blockM b m tr o2 = .no e6 := by rw [HB3.out, bnd_no hno]
              have hfin : R.no e6 = σ := HB2.out _ hblk
              refine ⟨⟨0, nl + 1, _, aA, cA, bl, a6, t6, o6, e6, rfl, rfl, hoA, hSA, hRA, .inr (.inr ⟨hne6, hfin.symm⟩)⟩, ?_⟩
              show lam (.bool bl) (far p (8 * b.length) wA) < far p (8 * b.length) wr
              have : lam (.bool bl) (far p (8 * b.length) wA) = 0 := by
                rw [far_dead hRA hne6]
                cases bl <;> rfl
              rw [Hfar.out, this]; omega
    · have HF := Lib.hid hF
      have Hlb := Lib.hid hlb
      have Hxs := Lib.hid hxs
      clear hF hlb hxs
      go_wp2
      go_ret
      rw [HF.out]
      refine ⟨al, cl, ar, by rw [← Hlb.out]; rfl, ?_, hS, hR⟩
      show wr.ownsRow _ 42 4 (.slice al lb.length cl) lb.length (cK lb)
      rw [← Hlb.out, ← Hxs.out]
      exact ho
    · have d1 : ((er : Int) == 0) = false := by simp; omega
      have HF := Lib.hid hF
      clear hF
      cases la with
      | true =>
        go_wp2
        go_ret
        rw [HF.out]
        exact ⟨_, ar, tr, or, rfl, hS, hR⟩
      | false =>
        go_wp2
        go_ret
        rw [HF.out]
        exact ⟨_, ar, tr, or, rfl, hS, hR⟩
end
end Go.Proofs.Ytpfalaghggjbjaa
