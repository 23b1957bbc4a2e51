/- The abstract machine, part 8: slices, addresses, conversions, lengths, as the model has them. -/
import Derived.Test.YtpanggiejiommaaGreatAm7
namespace Go.Am
set_option autoImplicit false
set_option linter.all false

inductive VRO (ρ : Ren) : Option AV → Option Value → Prop
  | none : VRO ρ none none
  | some (a : AV) (v : Value) (h : VR ρ a v) : VRO ρ (some a) (some v)

theorem VRO.map {ρ : Ren} (ev : Operand → AV) (cev : Operand → Value) (h : ∀ x, VR ρ (ev x) (cev x)) (x : Option Operand) : VRO ρ (x.map ev) (x.map cev) := by
  cases x with
  | none => exact .none
  | some x => exact .some _ _ (h x)

section
variable {P : Program} {ρ : Ren}

theorem boundA_run {v : AV} {v' : Value} {y r : Nat} (h : boundA v y = some r) (hv : VR ρ v v') {y' : Nat} (hy : y ≤ y') (code : BoundsCode) (w : World) :
    (Instr.sliceBound v' y' code).run P w = .ok r w ∧ r ≤ y := by
  cases hv <;> simp only [boundA, reduceCtorEq] at h
  case int k n =>
    split at h
    · rename_i hc
      simp only [Option.some.injEq] at h
      subst h
      refine ⟨run_sliceBound w k n y' code hc.1 (by omega), by omega⟩
    · cases h

theorem loA_run {lo : Option AV} {lo' : Option Value} {h l : Nat} (hl : loA lo h = some l) (hlo : VRO ρ lo lo') (code : BoundsCode) (w : World) :
    (match lo' with | some v => Instr.sliceBound v h code | none => pure 0 : Sem Nat).run P w = .ok l w ∧ l ≤ h := by
  cases hlo with
  | none => simp only [loA, Option.some.injEq] at hl; subst hl; exact ⟨rfl, Nat.zero_le _⟩
  | some a v hv => exact boundA_run hl hv (Nat.le_refl _) code w

theorem boundsA_run {n c c' l h m : Nat} {lo hi mx : Option AV} {lo' hi' mx' : Option Value} (hb : sliceBoundsA n c lo hi mx = some (l, h, m)) (hlo : VRO ρ lo lo') (hhi : VRO ρ hi hi') (hmx : VRO ρ mx mx')
    (hn : n ≤ c) (hc : c ≤ c') (isS : Bool) : ∃ m', (∀ w, (Instr.sliceBounds isS n c' lo' hi' mx').run P w = .ok (l, h, m') w) ∧ l ≤ h ∧ h ≤ m ∧ m ≤ m' ∧ (mx.isSome = true → m = m') ∧ (mx = none → m = c ∧ m' = c') := by
  simp only [sliceBoundsA, Option.bind_eq_some_iff, Option.map_eq_some_iff, Prod.mk.injEq] at hb
  obtain ⟨m0, hm, h0, hh, l0, hl, rfl, rfl, rfl⟩ := hb
  cases hmx with
  | none =>
    simp only [mxA, Option.some.injEq] at hm
    subst hm
    cases hhi with
    | none =>
      simp only [hiA, Option.some.injEq] at hh
      subst hh
      refine ⟨c', fun w => ?_, (loA_run (P := P) hl hlo .sliceB default).2, hn, hc, fun h => (by cases h), fun _ => ⟨rfl, rfl⟩⟩
      have := (loA_run (P := P) hl hlo .sliceB w).1
      cases hlo <;> simp_all [Instr.sliceBounds]
    | some a v hv =>
      simp only [hiA] at hh
      refine ⟨c', fun w => ?_, (loA_run (P := P) hl hlo .sliceB default).2, (boundA_run (P := P) hh hv (Nat.le_refl _) .index default).2, hc, fun h => (by cases h), fun _ => ⟨rfl, rfl⟩⟩
      have := (loA_run (P := P) hl hlo .sliceB w).1
      have hbr := (boundA_run (P := P) hh hv hc (if isS then .sliceAcap else .sliceAlen) w).1
      cases hlo <;> simp_all [Instr.sliceBounds]
  | some ma mv hmv =>
    simp only [mxA] at hm
    cases hhi with
    | none => simp [hiA] at hh
    | some a v hv =>
      simp only [hiA] at hh
      refine ⟨m0, fun w => ?_, (loA_run (P := P) hl hlo .slice3C default).2, (boundA_run (P := P) hh hv (Nat.le_refl _) .index default).2, Nat.le_refl _, fun _ => rfl, fun h => (by cases h)⟩
      have := (loA_run (P := P) hl hlo .slice3C w).1
      have hbm := (boundA_run (P := P) hm hmv hc (if isS then .slice3Acap else .slice3Alen) w).1
      have hbr := (boundA_run (P := P) hh hv (Nat.le_refl _) .slice3B w).1
      cases hlo <;> simp_all [Instr.sliceBounds]

theorem bounds_zero {l h m : Nat} {lo hi mx : Option AV} {lo' hi' mx' : Option Value} (hb : sliceBoundsA 0 0 lo hi mx = some (l, h, m)) (hlo : VRO ρ lo lo') (hhi : VRO ρ hi hi') (hmx : VRO ρ mx mx') (isS : Bool) :
    l = 0 ∧ h = 0 ∧ m = 0 ∧ ∀ w, (Instr.sliceBounds isS 0 0 lo' hi' mx').run P w = .ok (0, 0, 0) w := by
  obtain ⟨m', hr, hlh, hhm, hmm, hso, hno⟩ := boundsA_run (P := P) (c' := 0) hb hlo hhi hmx (Nat.le_refl _) (Nat.le_refl _) isS
  have hm0 : m = 0 := by
    cases hmx with
    | none => exact (hno rfl).1
    | some ma mv hmv =>
      simp only [sliceBoundsA, Option.bind_eq_some_iff, Option.map_eq_some_iff, Prod.mk.injEq] at hb
      obtain ⟨m0, hm1, h0, -, l0, -, -, -, rfl⟩ := hb
      have := (boundA_run (P := P) hm1 hmv (Nat.le_refl _) .index default).2
      omega
  have hm' : m' = 0 := by
    cases hm : mx.isSome with
    | true => rw [← hso hm]; exact hm0
    | false => exact (hno (by cases mx <;> first | rfl | cases hm)).2
  have hh0 : h = 0 := by omega
  have hl0 : l = 0 := by omega
  subst hm' hh0 hl0
  exact ⟨rfl, rfl, hm0, hr⟩

theorem mkSl {b o l h m m' cb d s : Nat} {x : Nat} (hρ : ρ b = some (cb, d)) (hlh : l ≤ h) (hhm : h ≤ m) (hmm : m ≤ m') (hex : x = 0 → m = m') (hk : x ≠ 0 → x = s ∧ o + d + m' * s ≤ ρ.sz cb) :
    VR ρ (.sl b (o + l * s) (h - l) (m - l) x) (.slice (if m' = l then some (⟨cb, o + d, none⟩ : Addr) else some ((⟨cb, o + d, none⟩ : Addr).add (l * s))) (h - l) (m' - l)) := by
  by_cases hml : m' = l
  · rw [if_pos hml]
    have e1 : h - l = 0 := by omega
    have e2 : m - l = 0 := by omega
    have e3 : m' - l = 0 := by omega
    rw [e1, e2, e3]
    exact .sl0 _ _ _ _
  · rw [if_neg hml]
    have ea : (⟨cb, o + d, none⟩ : Addr).add (l * s) = ⟨cb, o + l * s + d, none⟩ := by
      unfold Addr.add
      split
      · rename_i h0; rw [h0]; simp
      · simp; omega
    rw [ea]
    refine .sl _ _ _ _ _ _ _ _ hρ (by omega) (by omega) (fun hx => by rw [hex hx]) (fun hx => ?_)
    obtain ⟨rfl, h2⟩ := hk hx
    have : m' * x = l * x + (m' - l) * x := by rw [← Nat.add_mul]; congr 1; omega
    omega

theorem sliceA_run {t : TypeId} {x : AV} {x' : Value} {lo hi mx : Option AV} {lo' hi' mx' : Option Value} {r : AV} (h : sliceA P t x lo hi mx = some r) (hx : VR ρ x x') (hlo : VRO ρ lo lo') (hhi : VRO ρ hi hi') (hmx : VRO ρ mx mx') :
    ∃ r', (∀ w, (Instr.sliceAt t x' lo' hi' mx').run P w = .ok r' w) ∧ VR ρ r r' := by
  unfold sliceA at h
  split at h
  · rename_i s hu
    cases hx with
    | str ba =>
      split at h
      · rename_i l hh m hb
        simp only [Option.some.injEq] at h
        subst h
        cases hmx
        have hsz : ba.data.toList.length = ba.size := Array.length_toList
        rw [hsz] at hb
        obtain ⟨m', hr, hlh, hhm, hmm, -, hno⟩ := boundsA_run (P := P) hb hlo hhi .none (Nat.le_refl _) (Nat.le_refl _) false
        refine ⟨.string (ba.extract l hh), fun w => ?_, ?_⟩
        · simp [Instr.sliceAt, run_underlying hu, Instr.slice, hr w]
        · have := VR.str (ρ := ρ) (ba.extract l hh)
          have e : (ba.extract l hh).data.toList = (ba.data.toList.take hh).drop l := by
            simp [ByteArray.data_extract, List.extract, List.drop_take]
          rw [e] at this
          exact this
      · cases h
  · rename_i e b o n c ex hu
    cases hs : sizeT P e with
    | none => rw [hs] at h; simp at h
    | some s =>
      cases hb : sliceBoundsA n c lo hi mx with
      | none => rw [hs, hb] at h; simp at h
      | some q =>
        obtain ⟨l, hh, m⟩ := q
        rw [hs, hb] at h
        simp only at h
        split at h
        case isFalse => cases h
        rename_i hxs
        simp only [Option.some.injEq] at h
        subst h
        cases hx with
        | sl _ _ _ _ _ cb d c' hρ hn hc hxx hkk =>
          obtain ⟨m', hr, hlh, hhm, hmm, hso, hno⟩ := boundsA_run (P := P) hb hlo hhi hmx hn hc true
          refine ⟨_, fun w => ?_, mkSl hρ hlh hhm hmm (fun hxy => ?_) (fun hxy => ?_)⟩
          · simp only [Instr.sliceAt, Sem.run_bind, run_underlying hu, Result.andThen_ok, Instr.slice, hr w, run_sizeT hs, Sem.run_pure, Option.map_some]
          · cases hm : mx.isSome with
            | true => exact hso hm
            | false =>
              have hm0 : mx = none := by cases mx <;> first | rfl | cases hm
              obtain ⟨e1, e2⟩ := hno hm0
              simp only [hm, Bool.false_eq_true, if_false] at hxy
              rw [e1, e2]; exact hxx hxy
          · cases hm : mx.isSome with
            | true => simp [hm] at hxy
            | false =>
              have hm0 : mx = none := by cases mx <;> first | rfl | cases hm
              obtain ⟨e1, e2⟩ := hno hm0
              simp only [hm, Bool.false_eq_true, if_false] at hxy ⊢
              rcases hxs with hx0 | hx0
              · exact absurd hx0 hxy
              · refine ⟨hx0, ?_⟩
                rw [← hx0, e2]; exact hkk hxy
        | sl0 _ _ _ a =>
          obtain ⟨rfl, rfl, rfl, hr⟩ := bounds_zero (P := P) hb hlo hhi hmx true
          refine ⟨.slice (some a) 0 0, fun w => ?_, ?_⟩
          · simp [Instr.sliceAt, run_underlying hu, Instr.slice, hr w, run_sizeT hs]
          · simpa using VR.sl0 (ρ := ρ) b o (if mx.isSome then 0 else ex) a
  · rename_i e hu
    cases hx with
    | nils =>
      cases hb : sliceBoundsA 0 0 lo hi mx with
      | none => rw [hb] at h; simp at h
      | some q =>
        obtain ⟨l, hh, m⟩ := q
        cases hs : sizeT P e with
        | none => rw [hb, hs] at h; simp at h
        | some s =>
          rw [hb, hs] at h
          simp only [Option.some.injEq] at h
          subst h
          obtain ⟨rfl, rfl, rfl, hr⟩ := bounds_zero (P := P) hb hlo hhi hmx true
          refine ⟨.slice none 0 0, fun w => ?_, .nils⟩
          simp [Instr.sliceAt, run_underlying hu, Instr.slice, hr w, run_sizeT hs]
  · rename_i k e b o hu
    cases hs : sizeT P e with
    | none => rw [hs] at h; simp at h
    | some s =>
      cases hb : sliceBoundsA k k lo hi mx with
      | none => rw [hs, hb] at h; simp at h
      | some q =>
        obtain ⟨l, hh, m⟩ := q
        rw [hs, hb] at h
        simp only [Option.some.injEq] at h
        subst h
        cases hx with
        | ptr _ _ cb d hρ =>
          obtain ⟨m', hr, hlh, hhm, hmm, hso, hno⟩ := boundsA_run (P := P) hb hlo hhi hmx (Nat.le_refl _) (Nat.le_refl _) false
          have hex : m = m' := by
            cases hm : mx.isSome with
            | true => exact hso hm
            | false =>
              obtain ⟨e1, e2⟩ := hno (by cases mx <;> first | rfl | cases hm)
              rw [e1, e2]
          refine ⟨_, fun w => ?_, mkSl hρ hlh hhm hmm (fun _ => hex) (fun hx => absurd rfl hx)⟩
          simp only [Instr.sliceAt, Sem.run_bind, run_underlying hu, Result.andThen_ok, Instr.sureAddr, hr w, run_sizeT hs, Sem.run_pure]
          by_cases hml : m' = l <;> simp [hml]
  · cases h

theorem addr_add (cb o d n : Nat) : (⟨cb, o + d, none⟩ : Addr).add n = ⟨cb, o + n + d, none⟩ := by
  unfold Addr.add
  split
  · rename_i h0; rw [h0]; simp
  · simp; omega

theorem indexAddrA_run {t : TypeId} {x i : AV} {x' i' : Value} {r : AV} (h : indexAddrA P t x i = some r) (hx : VR ρ x x') (hi : VR ρ i i') : ∃ r', (∀ w, (Instr.indexAt t x' i').run P w = .ok r' w) ∧ VR ρ r r' := by
  unfold indexAddrA at h
  split at h
  · rename_i e b o n c ex k i hu
    cases hs : sizeT P e with
    | none => rw [hs] at h; cases h
    | some s =>
      rw [hs] at h
      simp only at h
      split at h
      · rename_i hb
        simp only [Option.some.injEq] at h
        subst h
        cases hi
        cases hx with
        | sl _ _ _ _ _ cb d c' hρ hn hc hxx hkk =>
          refine ⟨_, fun w => ?_, .ptr _ _ cb d hρ⟩
          simp only [Instr.indexAt, Sem.run_bind, asIntOf, Sem.run_pure, Result.andThen_ok, run_underlying hu, Sem.run_ite]
          rw [if_pos hb]
          simp [run_sizeT hs, addr_add]
        | sl0 => omega
      · cases h
  · rename_i k0 e b o k i hu
    cases hs : sizeT P e with
    | none => rw [hs] at h; cases h
    | some s =>
      rw [hs] at h
      simp only at h
      split at h
      · rename_i hb
        simp only [Option.some.injEq] at h
        subst h
        cases hi
        cases hx with
        | ptr _ _ cb d hρ =>
          refine ⟨_, fun w => ?_, .ptr _ _ cb d hρ⟩
          simp only [Instr.indexAt, Sem.run_bind, asIntOf, Sem.run_pure, Result.andThen_ok, run_underlying hu, Sem.run_ite, Instr.sureAddr]
          rw [if_pos hb]
          simp [run_sizeT hs, addr_add]
      · cases h
  · cases h

theorem indexA_run {t : TypeId} {x i : AV} {x' i' : Value} {r : AV} (h : indexA P t x i = some r) (hx : VR ρ x x') (hi : VR ρ i i') : ∃ r', (∀ w, (Instr.index t x' i').run P w = .ok r' w) ∧ VR ρ r r' := by
  unfold indexA at h
  split at h
  · rename_i s k i hu
    cases hi
    cases hx with
    | str ba =>
      split at h
      · rename_i h0
        simp only [Option.map_eq_some_iff] at h
        obtain ⟨b, hb, rfl⟩ := h
        have hb' : ba[i.toNat]? = some b := by
          rw [Array.getElem?_toList] at hb
          have hlt : i.toNat < ba.data.size := by
            rcases Nat.lt_or_ge i.toNat ba.data.size with hl | hl
            · exact hl
            · rw [Array.getElem?_eq_none hl] at hb; cases hb
          rw [Array.getElem?_eq_getElem hlt] at hb
          have : ba[i.toNat]? = some (ba[i.toNat]'hlt) := getElem?_pos ba i.toNat hlt
          rw [this]
          exact hb
        exact ⟨.int .u8 b.toNat, fun w => by simp [Instr.index, asIntOf, run_underlying hu, h0, hb'], .int _ _⟩
      · cases h
  · rename_i k0 e cs k i hu
    cases hs : sizeT P e with
    | none => rw [hs] at h; cases h
    | some s =>
      rw [hs] at h
      simp only at h
      split at h
      · rename_i hb
        cases hi
        cases hx with
        | agg _ vs hv =>
          obtain ⟨r', h1, h2⟩ := partA_run h hv
          refine ⟨r', fun w => ?_, h2⟩
          have := h1 w
          simp only [Array.toArray_toList] at this
          simp [Instr.index, asIntOf, run_underlying hu, hb, run_sizeT hs, this]
      · cases h
  · cases h

theorem convA_run {s d : TypeId} {x : AV} {x' : Value} {r : AV} (h : convA P s d x = some r) (hx : VR ρ x x') : ∃ r', (∀ w, (convert s d x').run P w = .ok r' w) ∧ VR ρ r r' := by
  unfold convA at h
  split at h
  · rename_i ds k j n hs hd
    simp only [Option.some.injEq] at h
    subst h
    cases hx
    exact ⟨.int k (k.wrap n), fun w => by simp [convert, run_underlying hs, run_underlying hd, Conv.intToInt], .int _ _⟩
  · rename_i ds j n hs hd
    simp only [Option.some.injEq] at h
    subst h
    cases hx
    exact ⟨.string (Utf8.encode n), fun w => by simp [convert, run_underlying hs, run_underlying hd, Conv.intToString], .str _⟩
  · rename_i ds s' hs hd
    simp only [Option.some.injEq] at h
    subst h
    cases hx with
    | str ba => exact ⟨.string ba, fun w => by simp [convert, run_underlying hs, run_underlying hd], .str _⟩
  · cases h

theorem minA_run (l : Bool) {x : AV} {r : List AV} {x' : Value} {r' : List Value} {v : AV} (h : minA l x r = some v) (hx : VR ρ x x') (hr : VRL ρ r r') :
    ∃ v', (∀ w, (r'.foldlM (if l then Builtin.min2 else Builtin.max2) x').run P w = .ok v' w) ∧ VR ρ v v' := by
  induction r generalizing x x' r' with
  | nil =>
    cases hr
    simp only [minA, Option.some.injEq] at h
    subst h
    exact ⟨x', fun w => by simp, hx⟩
  | cons y r ih =>
    cases hr with
    | cons _ y' _ r' hy hr =>
      cases hx <;> cases hy <;> simp only [minA, reduceCtorEq] at h
      case int.int k n k' n' =>
        cases l with
        | true =>
          obtain ⟨v', h1, h2⟩ := ih h (.int _ _) hr
          exact ⟨v', fun w => by simpa [Builtin.min2] using h1 w, h2⟩
        | false =>
          obtain ⟨v', h1, h2⟩ := ih h (.int _ _) hr
          exact ⟨v', fun w => by simpa [Builtin.max2] using h1 w, h2⟩

end
end Go.Am
