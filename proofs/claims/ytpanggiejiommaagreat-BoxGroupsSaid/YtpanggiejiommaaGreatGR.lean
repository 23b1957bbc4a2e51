/- BoxGroups: whatever the wishes, the two trades and the number: the law answers true and its arguments read as they did. No condition. -/
import Derived.Test.YtpanggiejiommaaGreatRows
import Derived.Test.YtpanggiejiommaaGreatGH
import Derived.Test.YtpanggiejiommaaGreatAm33
import Derived.ProofKit
import Derived.Deep.Matrix
namespace Go.Proofs.YtpanggiejiommaaGreat
open Go Go.Am Go.ChangeShapes Go.WideShapes Go.ChangeAt Go.RowKit Go.Deep
set_option autoImplicit false
set_option linter.all false

theorem own : ownKnob Tryz.prog.godebug = none := by kernel_rfl
theorem laidOut : laidOutB Tryz.prog = true := by kernel_rfl
theorem cells23 : Tryz.prog.cellsOf 23 = 1 := by kernel_rfl
theorem cells3 : Tryz.prog.cellsOf 3 = 1 := by kernel_rfl
theorem noGlobals : Tryz.prog.globals.size = 0 := by kernel_rfl

theorem groups_calls {W : World} {H : Type} {enc : TypeId × Value → H} {v0 v1 v2 : Value} {d0 d1 d2 : DataW H} {p0 p1 p2 : List MemPlace} {one : Int}
    (k0 : ∃ a len cap, v0 = .slice a len cap) (k1 : ∃ a len cap, v1 = .slice a len cap) (k2 : ∃ a len cap, v2 = .slice a len cap)
    (h0 : DataW.Trod enc Tryz.prog W 0 (fun _ => true) true 22 v0 d0 p0) (h1 : DataW.Trod enc Tryz.prog W 0 (fun _ => true) true 23 v1 d1 p1) (h2 : DataW.Trod enc Tryz.prog W 0 (fun _ => true) true 23 v2 d2 p2) (w3 : (Lit.int .u8 one).wf = true) :
    Calls Tryz.prog 3 #[v0, v1, v2, .int .u8 one] W fun e W' => e = .returned (.bool true) ∧ Below W.heap.size W W' := by
  obtain ⟨a0, l0, c0, rfl⟩ := k0
  obtain ⟨a1, l1, c1, rfl⟩ := k1
  obtain ⟨a2, l2, c2, rfl⟩ := k2
  obtain ⟨f0, h0⟩ := h0
  obtain ⟨f1, h1⟩ := h1
  obtain ⟨f2, h2⟩ := h2
  have hu8 : ∃ n : Nat, one = n ∧ n < 256 := by
    have m1 : IntKind.u8.min = 0 := rfl
    have m2 : IntKind.u8.max = 255 := rfl
    have : IntKind.u8.min ≤ one ∧ one ≤ IntKind.u8.max := by simpa [Lit.wf] using w3
    exact ⟨one.toNat, by omega, by omega⟩
  obtain ⟨one, rfl, hone⟩ := hu8
  have ints : ∀ {a : Option Addr} {l c : Nat} {fuel : Nat} {x : DataW H × List MemPlace}, DataW.trod enc Tryz.prog W 0 (fun _ => true) true fuel 23 (Value.slice a l c).cells.toList = some x →
      ∃ zs : List Int, l ≤ c ∧ (a = none → c = 0) ∧ zs.length = c ∧ (∀ a', a = some a' → ∀ i, i < c → W.cell? (a'.add i) = some (.int .i64 (zs.getD i 0))) := by
    intro a l c fuel x hx
    rcases open_ints Tryz.underlying23 Tryz.underlying3 cells3 hx with ⟨hcs, _⟩ | ⟨a', len, cap, zs, hcs, _, hl, _, hz, _, hcell, _⟩
    · simp [Value.cells] at hcs
      obtain ⟨rfl, rfl, rfl⟩ := hcs
      exact ⟨[], Nat.le_refl _, fun _ => rfl, rfl, fun a' h => by cases h⟩
    · simp [Value.cells] at hcs
      obtain ⟨rfl, rfl, rfl⟩ := hcs
      simp only [if_true] at hz
      refine ⟨zs, hl, ?_, hz, ?_⟩
      · intro h; cases h
      · intro a'' h i hi
        cases h
        exact hcell i (by omega)
  have rows : ∃ (A : Nat → Option Addr) (L C : Nat → Nat) (Z : Nat → List Int), l0 ≤ c0 ∧ c0 ≤ maxLen ∧ (a0 = none → c0 = 0) ∧ (∀ a', a0 = some a' → ∀ r, r < c0 → W.cell? (a'.add r) = some (.slice (A r) (L r) (C r))) ∧
      ∀ r, r < c0 → L r ≤ C r ∧ (A r = none → C r = 0) ∧ (Z r).length = C r ∧ ∀ a, A r = some a → ∀ i, i < C r → W.cell? (a.add i) = some (.int .i64 ((Z r).getD i 0)) := by
    rcases open_int_rows Tryz.underlying22 Tryz.underlying23 Tryz.underlying3 cells23 cells3 h0 with ⟨hcs, _⟩ | ⟨a, len, cap, A, L, C, Z, hcs, _, hl, hm, _, hr⟩
    · simp [Value.cells] at hcs
      obtain ⟨rfl, rfl, rfl⟩ := hcs
      refine ⟨fun _ => none, fun _ => 0, fun _ => 0, fun _ => [], Nat.le_refl _, Nat.zero_le _, fun _ => rfl, ?_, ?_⟩
      · intro a' h; cases h
      · intro r h; omega
    · simp [Value.cells] at hcs
      obtain ⟨rfl, rfl, rfl⟩ := hcs
      refine ⟨A, L, C, Z, hl, hm, ?_, ?_, ?_⟩
      · intro h; cases h
      · intro a' h r hr'
        cases h
        exact (hr r hr').1
      · intro r hr'
        obtain ⟨_, q1, _, q3, _, q5, q6⟩ := hr r hr'
        exact ⟨q1, q5, q3, fun a h i hi => (q6 a h).2 i hi⟩
  obtain ⟨A, L, C, Z, r1, r2, r3, r4, r5⟩ := rows
  obtain ⟨zs1, s1, s2, s3, s4⟩ := ints h1
  obtain ⟨zs2, t1, t2, t3, t4⟩ := ints h2
  have H0 := (HR.start (w := W) (G := Tryz.prog.globals.size) (by rw [noGlobals]; exact Nat.zero_le _)).ghost
  have g0 : ((Heap.new Tryz.prog.globals.size).push (.cells [] false)).get (Heap.new Tryz.prog.globals.size).n = some (.cells [] false) := Heap.get_push_new _ _
  obtain ⟨xs, ρ1, m1, x1, x2, ld1⟩ := Laid.rows Sized.start H0 g0 .i64 A L C Z l0 (fun r hr => r5 r (by omega))
  obtain ⟨wv, ρ2, m2, y1, y2, ld2⟩ := Laid.row ld1.sized ld1.hr ld1.ghost a0 l0 c0 (fun r => .slice (A r) (L r) (C r)) xs r1 r3 r4 x1 (fun r x hx => ⟨(x2 r x hx).1, (x2 r x hx).2.plain.1, (x2 r x hx).2.plain.2⟩)
  obtain ⟨tv, ρ3, m3, z1, z2, ld3⟩ := Laid.ints ld2.sized ld2.hr ld2.ghost .i64 a1 l1 c1 zs1 s1 s2 s3 s4
  obtain ⟨ov, ρ4, m4, u1, u2, ld4⟩ := Laid.ints ld3.sized ld3.hr ld3.ghost .i64 a2 l2 c2 zs2 t1 t2 t3 t4
  have ld := (ld2.trans ld3).trans ld4
  have hw : Lists m4 wv ((List.range l0).map fun r => (Z r).take (L r)) := by
    refine ⟨xs, (y2.grow ld2.low (ld3.trans ld4).grow), by simp [x1], fun i x l hx hl => ?_⟩
    rw [List.getElem?_map, Option.map_eq_some_iff] at hl
    obtain ⟨r, hr, rfl⟩ := hl
    have hri : r = i := by
      have hlt := (List.getElem?_eq_some_iff.1 hr).1
      rw [List.getElem?_eq_getElem hlt] at hr
      simpa using (Option.some.inj hr).symm
    subst hri
    exact (x2 r x hx).2.grow ld1.low ld.grow
  have hmax : maxLen < 2 ^ 63 := by decide
  refine (groups_ok m4 wv tv ov _ _ _ one l0 hw (z2.grow ld3.low ld4.grow) u2 hone (by simp) (by omega)).calls ld4.hr ?_ (fun v h' hv => hv.1)
  exact .cons _ _ _ _ (y1.mono (ld3.trans ld4).sub) (.cons _ _ _ _ (z1.mono ld4.sub) (.cons _ _ _ _ u1 (.cons _ _ _ _ (.int _ _) .nil)))

set_option maxRecDepth 100000 in
theorem groups_lifted (os : Os) (started : os.Started) (H : Type) (enc : TypeId × Value → H) :
    ReturnsInHanded {} Tryz.checked os 3 .any (Rows.boxGroupsSpec.pre6 enc Tryz.prog Tryz.f3 Rows.boxGroupsRow.domain false) (Rows.boxGroupsSpec.post enc Tryz.prog Tryz.f3 false true false false) := by
  refine returnsInHanded_of_change (C := Tryz.checked) own started (by kernel_rfl) Tryz.func3
    (ChangeSpec.witness6 (enc := enc) (C := Tryz.checked) false ⟨#[], #[.slice none 0 0, .slice none 0 0, .slice none 0 0, .int .u8 0], []⟩ 8 (by kernel_rfl) (by kernel_rfl) (by kernel_rfl) (by kernel_rfl)) ?_
  intro W base args ds gs before hval0 hW hcnd _
  have hval : ∀ (j : Nat) t v, Tryz.f3.params[j]? = some t → args[j]? = some v → Value.okWide Tryz.prog W .any base t v := hval0
  have hW' := hW
  obtain ⟨p, q, hA0, hV, rfl, hfz, hnd⟩ := hW
  have hA : DataW.TrodAll enc Tryz.prog W 0 (fun _ => true) true Tryz.f3.params.toList args.toList ds p := hA0
  rw [Tryz.params3] at hA hval
  obtain ⟨v0, v1, v2, v3, d0, d1, d2, d3, p0, p1, p2, p3, rfl, rfl, rfl, h0, h1, h2, h3⟩ := trodAll_four hA
  obtain ⟨one, rfl, rfl, rfl, wo⟩ := open_int Tryz.underlying5 (hval 3 5 v3 rfl rfl) h3
  refine (groups_calls (okWide_slice Tryz.underlying22 (hval 0 22 v0 rfl rfl)) (okWide_slice Tryz.underlying23 (hval 1 23 v1 rfl rfl)) (okWide_slice Tryz.underlying23 (hval 2 23 v2 rfl rfl)) h0 h1 h2 wo).mono fun e W' ⟨he, hb⟩ => ?_
  subst he
  exact ⟨_, rfl, post_below laidOut hW' hb (by rw [Tryz.params3]; decide +kernel) rfl rfl (bt := 4) (by kernel_rfl) (by kernel_rfl)⟩

theorem groups_proved : Rows.BoxGroupsSaid :=
  OpenClaim.holds_of_wide 3 Tryz.f3 rfl rfl rfl rfl rfl rfl rfl ⟨rfl, rfl, rfl, rfl, rfl⟩ rfl rfl rfl rfl rfl (by kernel_rfl) Tryz.func3 (by kernel_rfl)
    (of_decide_eq_true (by kernel_rfl)) (by unfold Func.isWrapper; first | (rw [if_pos (by decide +kernel)]; kernel_rfl) | (rw [if_neg (by decide +kernel)]; exact ⟨rfl, rfl⟩))
    (fun os started H enc _ => groups_lifted os started H enc)
end Go.Proofs.YtpanggiejiommaaGreat
