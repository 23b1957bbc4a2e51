/- Walks of the box seat, for BoxGroups: the search of a deal. -/
import Derived.Test.YtpanggiejiommaaGreatGE
namespace Go.Proofs.YtpanggiejiommaaGreat
open Go Go.Am
set_option autoImplicit false
set_option linter.all false
set_option maxRecDepth 100000
attribute [local simp] RC_skip RC_ops RC_draw RC_seq RC_cond RC_block RC_loop RC_exit RC_ret RC_orig RO_nil RO_cons RO_guardN flipA_bool flipA_un R1_mv R1_pick R1_alloc R1_box R1_build R1_bsl R1_load R1_store R1_nilc R1_ib R1_sh R1_sb R1_bb R1_un R1_cvi R1_mkif R1_mkfn R1_mksl R1_fa R1_fld R1_ia R1_iaa R1_ixs R1_lenS R1_lenT R1_lenM R1_ext R1_call R1_app R1_gen RD_nil RD_cons RD_guardN D1_mv D1_pick D1_build D1_nilc D1_ib D1_sh D1_sb D1_bb D1_un D1_cvi D1_mkif D1_mkfn D1_fa D1_fld D1_ia D1_iaa D1_ixs D1_lenS D1_lenT D1_ext D1_load D1_alloc D1_box D1_bsl D1_store D1_call D1_app KF_nil KF_inN KF_outN KF_ainN KF_aoutN
attribute [local simp] xv_k xv_t put_some put_none SM_ca endC_ret endC_tmps intA cmp_eql cmp_neq cmp_lss cmp_leq cmp_gtr cmp_geq bindM_some bindM_none ptrM_ptr intM_int strM_str boolM_bool tupM_tup cellsM_cells BrM_true BrM_false BrM_not gdM_true gdM_false gdM_un mustM_true unA eqOp resA_nil resA_tmp tupA gt_zero gt_succ gt_nil gt_set rd_fold AV.cells AV.one fillA setL_one ldA_one get_push_new get_push_old get_set_new get_set_old rd_push_new rd_push_old rd_set_new rd_set_old
attribute [local simp] lay_zero lay_succ
attribute [local simp] call32

theorem shr8 {f x : Nat} (hf : f < 256) (hx : x < 8) : shiftA .shr .u8 f x = some (.int .u8 ((f / 2 ^ x : Nat) : Int)) := by
  have := (by decide +kernel : ∀ f : Nat, f < 256 → ∀ x : Nat, x < 8 → Int.fdiv ((f : Nat) : Int) (2 ^ (min (x : Int).toNat IntKind.u8.bits)) = ((f / 2 ^ x : Nat) : Int)) f hf x hx
  unfold shiftA; rw [if_neg (by omega)]; simp only; rw [this]
theorem shl8 {x : Nat} (hx : x < 8) : shiftA .shl .u8 1 x = some (.int .u8 ((2 ^ x : Nat) : Int)) := by
  have := (by decide +kernel : ∀ x : Nat, x < 8 → IntKind.u8.wrap (1 * 2 ^ (min (x : Int).toNat IntKind.u8.bits)) = ((2 ^ x : Nat) : Int)) x hx
  unfold shiftA; rw [if_neg (by omega)]; simp only; rw [this]
theorem shl8_8 : shiftA .shl .u8 1 8 = some (.int .u8 0) := by kernel_rfl
theorem and8 {m : Nat} (hm : m < 256) : bitsA .and .u8 m 1 = some ((m % 2 : Nat) : Int) := (by decide +kernel : ∀ m : Nat, m < 256 → bitsA .and .u8 ((m : Nat) : Int) 1 = some ((m % 2 : Nat) : Int)) m hm
/-- A bit taken out. -/
def clr (f x : Nat) : Nat := if f / 2 ^ x % 2 = 1 then f - 2 ^ x else f
theorem clr_lt {f x : Nat} (h : f < 256) : clr f x < 256 := by
  unfold clr; split
  · exact Nat.lt_of_le_of_lt (Nat.sub_le _ _) h
  · exact h
theorem andNot8 {f x : Nat} (hf : f < 256) (hx : x < 8) : bitsA .andNot .u8 f ((2 ^ x : Nat) : Int) = some ((clr f x : Nat) : Int) := (by decide +kernel : ∀ f : Nat, f < 256 → ∀ x : Nat, x < 8 → bitsA .andNot .u8 ((f : Nat) : Int) ((2 ^ x : Nat) : Int) = some ((clr f x : Nat) : Int)) f hf x hx

def dealRow (rec : Nat → Bool → Bool) (t : Int) (f : Nat) (b : Bool) : List Int → Bool
  | [] => false
  | x :: r => if f / 2 ^ x.toNat % 2 = 1 ∧ rec (clr f x.toNat) (b || !decide (x = t)) = true then true else if x = t then false else dealRow rec t f b r
def deal (ws : List (List Int)) (tr : List Int) (g : Nat) : Nat → Nat → Nat → Bool → Bool
  | 0, _, _, b => b
  | k + 1, i, f, b => if g / 2 ^ i % 2 = 0 then deal ws tr g k (i + 1) f b else dealRow (fun f b => deal ws tr g k (i + 1) f b) (tr.getD i 0) f b (ws.getD i [])

/-- What the search of a deal has at hand. -/
structure DealH (n : Nat) (ws : List (List Int)) (tr : List Int) (g : Nat) (wv tv : AV) (pn pg pd pw pt : Nat) (h : Heap) : Prop where
  cn : rd h false 1 pn 0 = some (.int .i64 n)
  cg : rd h false 1 pg 0 = some (.int .u8 g)
  cd : rd h false 1 pd 0 = some (.fn (.func 32) [] [.ptr pn 0, .ptr pg 0, .ptr pd 0, .ptr pw 0, .ptr pt 0])
  cw : rd h false 1 pw 0 = some wv
  ct : rd h false 1 pt 0 = some tv
  lw : Lists h wv ws
  lt : IntS h tv tr
  hn : ws.length = n
  h8 : n ≤ 8
  ho : ∀ l ∈ ws, IsOrd n l
  ht : IsOrd n tr
  hg : g < 256

theorem deal_ok {n : Nat} {ws : List (List Int)} {tr : List Int} {g : Nat} {wv tv : AV} {pn pg pd pw pt : Nat} {h : Heap} (D : DealH n ws tr g wv tv pn pg pd pw pt h) : ∀ (k i f : Nat) (b : Bool), i + k = n → f < 256 →
    ACa Tryz.prog 32 [.int .i64 i, .int .u8 f, .bool b, .ptr pn 0, .ptr pg 0, .ptr pd 0, .ptr pw 0, .ptr pt 0] h fun r h' => r = .bool (deal ws tr g k i f b) ∧ h' = h := by
  intro k
  induction k with
  | zero =>
    intro i f b hik hf
    refine ACa.introR follows_any look32 fun hl => ?_
    have hin : i = n := by omega
    subst hin
    delta c32; simp -dsimp [D.cn]
    rfl
  | succ k ih =>
    intro i f b hik hf
    refine ACa.introR follows_any look32 fun hl => ?_
    have hne : ¬ (i : Int) = n := by omega
    have h8 := D.h8
    obtain ⟨m, q, hq, e1, e2⟩ : ∃ m q : Nat, q = g / 2 ^ i % 2 ∧ shiftA .shr .u8 g i = some (.int .u8 m) ∧ bitsA .and .u8 m 1 = some (q : Int) :=
      ⟨_, _, rfl, shr8 D.hg (by omega), and8 (Nat.lt_of_le_of_lt (Nat.div_le_self _ _) D.hg)⟩
    delta c32; simp -dsimp [D.cn, hne, D.cg, e1, e2]
    refine Br_dec (fun h0 => ?_) (fun h0 => ?_)
    · simp -dsimp [D.cd, wrap_i64 (n := (i : Int) + 1) (by omega) (by omega)]
      refine caM.by (ih (i + 1) f b (by omega) hf) ?_
      rintro _ h' - ⟨rfl, rfl⟩
      simp -dsimp [deal, show g / 2 ^ i % 2 = 0 by omega]
    · obtain ⟨row, hrow⟩ : ∃ row, ws[i]? = some row := ⟨_, List.getElem?_eq_getElem (by rw [D.hn]; omega)⟩
      obtain ⟨t, ht⟩ : ∃ t, tr[i]? = some t := ⟨_, List.getElem?_eq_getElem (by rw [D.ht.1]; omega)⟩
      obtain ⟨wb, wp, rv, w1, w2, w3⟩ := D.lw.elem hl hrow
      obtain ⟨tb, tp, t1, -, t2, -⟩ := D.lt.elem hl (i := i) (y := .int .i64 t) (by simp -dsimp [ht])
      have ho := D.ho row (List.mem_of_getElem? hrow)
      have hrl : row.length = n := ho.1
      have hdeal : deal ws tr g (k + 1) i f b = dealRow (fun f b => deal ws tr g k (i + 1) f b) t f b row := by
        rw [deal, if_neg (by omega), List.getD_eq_getElem?_getD, List.getD_eq_getElem?_getD, hrow, ht]; rfl
      rw [hdeal]
      simp -dsimp [D.cw, w1, w2, w3.slLen]
      refine wcM.loopN follows_any 67 (fun j => row.length - j) (fun j ts h' => h' = h ∧ j ≤ row.length ∧ gt ts 0 = .int .i64 i ∧ gt ts 1 = .int .u8 f ∧ gt ts 2 = .bool b ∧ gt ts 3 = .ptr pn 0 ∧ gt ts 4 = .ptr pg 0 ∧ gt ts 5 = .ptr pd 0 ∧ gt ts 6 = .ptr pw 0 ∧ gt ts 7 = .ptr pt 0 ∧ gt ts 33 = rv ∧ gt ts 34 = .int .i64 row.length ∧ gt ts 35 = .int .i64 j ∧
        dealRow (fun f b => deal ws tr g k (i + 1) f b) t f b row = dealRow (fun f b => deal ws tr g k (i + 1) f b) t f b (row.drop j)) 0 rfl ⟨rfl, Nat.zero_le _, rfl, rfl, rfl, rfl, rfl, rfl, rfl, rfl, rfl, rfl, rfl, rfl⟩ ?_
      rintro j ts h' - ⟨rfl, hj, u0, u1, u2, u3, u4, u5, u6, u7, u33, u34, u35, hd⟩
      delta c32l0; simp -dsimp [u0, u1, u2, u3, u4, u5, u6, u7, u33, u34, u35]
      refine Br_dec (fun hlt => ?_) (fun hge => ?_)
      · have hlt : j < row.length := by omega
        obtain ⟨x, hx⟩ : ∃ x, row[j]? = some x := ⟨_, List.getElem?_eq_getElem hlt⟩
        obtain ⟨rb, rp, r1, -, r2, -⟩ := w3.elem hl (i := j) (y := .int .i64 x) (by simp -dsimp [hx])
        have hxr := ho.2.1 x (List.mem_of_getElem? hx)
        obtain ⟨X, rfl⟩ : ∃ X : Nat, x = X := ⟨x.toNat, by omega⟩
        have hdrop : row.drop j = (X : Int) :: row.drop (j + 1) := by rw [List.drop_eq_getElem_cons hlt]; congr 1; rw [List.getElem?_eq_getElem hlt] at hx; exact Option.some.inj hx
        rw [hdrop, dealRow, Int.toNat_natCast] at hd
        obtain ⟨m', q', hq', f1, f2⟩ : ∃ m q : Nat, q = f / 2 ^ X % 2 ∧ shiftA .shr .u8 f X = some (.int .u8 m) ∧ bitsA .and .u8 m 1 = some (q : Int) :=
          ⟨_, _, rfl, shr8 hf (by omega), and8 (Nat.lt_of_le_of_lt (Nat.div_le_self _ _) hf)⟩
        obtain ⟨P, F, hF, f3, f4⟩ : ∃ P F : Nat, F = clr f X ∧ shiftA .shl .u8 1 X = some (.int .u8 P) ∧ bitsA .andNot .u8 f P = some (F : Int) :=
          ⟨_, _, rfl, shl8 (by omega), andNot8 hf (by omega)⟩
        have hF8 : F < 256 := by rw [hF]; exact clr_lt hf
        rw [← hq', ← hF] at hd
        simp -dsimp [u0, u1, u2, u3, u4, u5, u6, u7, u33, u34, u35, r1, r2, D.ct, t1, t2, f1, f2]
        refine Br_dec (fun hq1 => ?_) (fun hq1 => ?_)
        · have hq1' : q' = 1 := by omega
          have key : ∀ r : Bool, r = (b || !decide ((X : Int) = t)) → ACa Tryz.prog 32 [.int .i64 ((i : Int) + 1), .int .u8 F, .bool r, .ptr pn 0, .ptr pg 0, .ptr pd 0, .ptr pw 0, .ptr pt 0] h' fun v h2 => v = .bool (deal ws tr g k (i + 1) F (b || !decide ((X : Int) = t))) ∧ h2 = h' := fun r hr => by subst hr; exact ih (i + 1) F _ (by omega) hF8
          obtain ⟨Y, hY⟩ : ∃ Y, Y = deal ws tr g k (i + 1) F (b || !decide ((X : Int) = t)) := ⟨_, rfl⟩
          rw [← hY] at key hd
          cases b <;>
          · simp -dsimp [u0, u1, u2, u3, u4, u5, u6, u7, u33, u34, u35, D.cd, f3, f4, hq1, wrap_i64 (n := (i : Int) + 1) (by omega) (by omega)]
            refine caM.by (key _ (by simp)) ?_
            rintro _ h2 - ⟨rfl, rfl⟩
            simp -dsimp [hq1]
            cases hYv : Y with
            | true =>
              simp -dsimp
              rw [hd, if_pos ⟨hq1', hYv⟩]
            | false =>
              simp -dsimp
              refine Br_dec (fun hs => ?_) (fun hs => ?_)
              · simp -dsimp
                rw [hd, if_neg (by simp [hYv]), if_pos hs]
              · simp -dsimp [u0, u1, u2, u3, u4, u5, u6, u7, u33, u34, u35, wrap_i64 (n := (j : Int) + 1) (by omega) (by omega)]
                refine Next.intro (j + 1) rfl ⟨rfl, hlt, rfl, rfl, rfl, rfl, rfl, rfl, rfl, rfl, rfl, rfl, rfl, ?_⟩ (by omega)
                rw [hd, if_neg (by simp [hYv]), if_neg hs]
        · have hq1' : ¬ q' = 1 := by omega
          simp -dsimp [u0, u1, u2, u3, u4, u5, u6, u7, u33, u34, u35, hq1]
          refine Br_dec (fun hs => ?_) (fun hs => ?_)
          · simp -dsimp
            rw [hd, if_neg (by simp [hq1']), if_pos hs]
          · simp -dsimp [u0, u1, u2, u3, u4, u5, u6, u7, u33, u34, u35, wrap_i64 (n := (j : Int) + 1) (by omega) (by omega)]
            refine Next.intro (j + 1) rfl ⟨rfl, hlt, rfl, rfl, rfl, rfl, rfl, rfl, rfl, rfl, rfl, rfl, rfl, ?_⟩ (by omega)
            rw [hd, if_neg (by simp [hq1']), if_neg hs]
      · simp -dsimp
        rw [hd, List.drop_eq_nil_of_le (by omega)]; rfl
end Go.Proofs.YtpanggiejiommaaGreat
