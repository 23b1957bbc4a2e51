/- The abstract machine, part 5: keys of maps, as the model has them. -/
import Derived.Test.YtpanggiejiommaaGreatAm4
namespace Go.Am
set_option autoImplicit false
set_option linter.all false

section
variable {P : Program} {ρ : Ren}

theorem run_forIn_unit {α : Type} (l : List α) (f : α → PUnit → Sem (ForInStep PUnit)) (w : World) (h : ∀ x ∈ l, (f x ⟨⟩).run P w = .ok (.yield ⟨⟩) w) :
    (forIn l PUnit.unit f).run P w = .ok PUnit.unit w := by
  induction l with
  | nil => simp
  | cons x l ih =>
    simp only [List.forIn_cons, Sem.run_bind, h x (by simp), Result.andThen_ok]
    exact ih fun y hy => h y (by simp [hy])

def CkT (P : Program) (m : Nat) (t : TypeId) (n : Nat) : Prop :=
  ∀ (xs' : List Value) (w : World) (em : Bool), xs'.length = n → (Instr.checkKey em m t (mkV P t xs')).run P w = .ok () w

theorem checkFields_run {m : Nat} (g : TypeId → Option (List Kd)) (hg : ∀ t ks, g t = some ks → CkT P m t ks.length ∧ sizeT P t = some ks.length ∧ (aggT P t).isSome = true ∧ (aggT P t = some false → ks.length = 1)) (xs' : List Value) (em : Bool) :
    ∀ (fs : List Field) (off : Nat) (ks : List Kd), kindsF P g off fs = some ks → xs'.length = off + ks.length →
      ∀ f ∈ fs, ∀ w : World, f.name ≠ "_" ∧ ∃ v, (part f.type xs'.toArray f.offset).run P w = .ok v w ∧ (Instr.checkKey em m f.type v).run P w = .ok () w := by
  intro fs
  induction fs with
  | nil => intro off ks _ _ f hf; cases hf
  | cons f fs ih =>
    intro off ks hk hl f' hf' w
    simp only [kindsF] at hk
    split at hk
    · rename_i hf
      obtain ⟨rfl, hn⟩ := hf
      cases hgf : g f.type with
      | none => rw [hgf] at hk; cases hk
      | some kf =>
        rw [hgf] at hk
        simp only [Option.map_eq_some_iff] at hk
        obtain ⟨kr, hkr, rfl⟩ := hk
        obtain ⟨e0, e1, e2, e3⟩ := hg _ _ hgf
        rw [List.length_append] at hl
        cases hf' with
        | head =>
          refine ⟨hn, _, run_partV xs' w e1 e2 e3 (by omega), e0 _ w em (by simp; omega)⟩
        | tail _ hf'' => exact ih _ kr hkr (by omega) f' hf'' w
    · cases hk

theorem ckT (d : Nat) : ∀ (t : TypeId) (ks : List Kd) (m : Nat), kindsT P d t = some ks → d ≤ m → CkT P m t ks.length := by
  induction d with
  | zero => intro t ks m h; simp [kindsT] at h
  | succ d ih =>
    intro t ks m h hm
    have hEq := eqT (ρ := Ren.no) (d + 1) t ks m h hm
    obtain ⟨m, rfl⟩ : ∃ q, m = q + 1 := ⟨m - 1, by omega⟩
    obtain ⟨hsz, -, -, -⟩ := hEq
    unfold kindsT at h
    intro xs' w em hl
    cases hu : P.underlying t with
    | none => simp [hu] at h
    | some td =>
      have hagg := agg_of_und hu
      cases td <;> simp only [hu] at h <;> first | (simp at h; done) | skip
      case bool => unfold Instr.checkKey; simp only [Sem.run_bind, run_underlying hu, Result.andThen_ok]; cases mkV P t xs' <;> rfl
      case int k => unfold Instr.checkKey; simp only [Sem.run_bind, run_underlying hu, Result.andThen_ok]; cases mkV P t xs' <;> rfl
      case string => unfold Instr.checkKey; simp only [Sem.run_bind, run_underlying hu, Result.andThen_ok]; cases mkV P t xs' <;> rfl
      case array n e =>
        cases hke : kindsT P d e with
        | none => simp [hke] at h
        | some ke =>
          simp only [hke, Option.map_some] at h
          split at h
          · simp only [Option.some.injEq] at h
            subst h
            have hE := eqT (ρ := Ren.no) d e ke m hke (by omega)
            have hC := ih e ke m hke (by omega)
            have hf : aggT P t = some true := hagg
            rw [length_timesL] at hl
            have hmk : mkV P t xs' = .agg xs'.toArray := by simp [mkV, hf]
            rw [hmk]
            unfold Instr.checkKey
            simp only [Sem.run_bind, run_underlying hu, Result.andThen_ok]
            simp only [Std.Legacy.Range.forIn_eq_forIn_range', Std.Legacy.Range.size, Nat.sub_zero, Nat.add_one_sub_one, Nat.div_one]
            rw [run_forIn_unit]
            · rfl
            intro i hi
            simp only [List.mem_range'_1] at hi
            have hb : i * ke.length + ke.length ≤ xs'.length := by
              rw [hl, ← Nat.succ_mul]; exact Nat.mul_le_mul_right _ (by omega)
            simp only [Sem.run_bind, run_sizeT hE.1, Result.andThen_ok, run_partV xs' w hE.1 hE.2.1 hE.2.2.1 hb]
            rw [hC _ w em (by simp; omega)]
            simp
          · cases h
      case struct fs =>
        by_cases hsi : P.stoodInHeld t = true
        · simp [hsi] at h
        · simp only [hsi, Bool.false_eq_true, if_false] at h
          cases hkf : kindsF P (kindsT P d) 0 fs.toList with
          | none => simp [hkf] at h
          | some kf =>
            simp only [hkf] at h
            split at h
            · simp only [Option.some.injEq] at h
              subst h
              have hf : aggT P t = some true := hagg
              have hmk : mkV P t xs' = .agg xs'.toArray := by simp [mkV, hf]
              rw [hmk]
              unfold Instr.checkKey
              simp only [Sem.run_bind, run_underlying hu, Result.andThen_ok]
              rw [← Array.forIn_toList, run_forIn_unit]
              · rfl
              intro f hfm
              obtain ⟨hn, v, h1, h2⟩ := checkFields_run (m := m) (kindsT P d) (fun t' ks' h' => by
                have hE := eqT (ρ := Ren.no) d t' ks' m h' (by omega)
                exact ⟨ih t' ks' m h' (by omega), hE.1, hE.2.1, hE.2.2.1⟩) xs' em fs.toList 0 kf hkf (by simpa using hl) f hfm w
              simp [hn, h1, h2]
            · cases h

theorem eqKd_scalar {kd : Kd} {a b : AV} {r : Bool} (h : eqKd kd a b = some r) : a.cells = [a] ∧ b.cells = [b] := by
  cases kd <;> cases a <;> cases b <;> simp [eqKd, AV.cells] at h ⊢

theorem mkV_agg {t : TypeId} {vs : Array Value} (h : aggT P t = some true) : mkV P t vs.toList = .agg vs := by simp [mkV, h]
theorem mkV_one {t : TypeId} {v : Value} (h : aggT P t = some false) : mkV P t [v] = v := by simp [mkV, h]

theorem eqK_cases {ks : List Kd} {a b : AV} {r : Bool} (h : eqK ks a b = some r) :
    (∃ xs ys, a = .agg xs ∧ b = .agg ys ∧ xs.length = ks.length ∧ ys.length = ks.length ∧ eqSK ks xs ys = some r) ∨
    (a.isAgg = false ∧ b.isAgg = false ∧ ∃ k, ks = [k] ∧ eqKd k a b = some r) := by
  by_cases ha : ∃ xs, a = .agg xs
  · obtain ⟨xs, rfl⟩ := ha
    by_cases hb : ∃ ys, b = .agg ys
    · obtain ⟨ys, rfl⟩ := hb
      simp only [eqK] at h
      split at h
      · rename_i hl
        exact .inl ⟨xs, ys, rfl, rfl, hl.1, hl.2, h⟩
      · cases h
    · cases b <;> first | exact absurd ⟨_, rfl⟩ hb | (simp [eqK] at h)
  · have h1 : a.isAgg = false := by cases a <;> first | rfl | exact absurd ⟨_, rfl⟩ ha
    by_cases hb : ∃ ys, b = .agg ys
    · obtain ⟨ys, rfl⟩ := hb
      cases a <;> first | exact absurd ⟨_, rfl⟩ ha | (simp [eqK] at h)
    · have h2 : b.isAgg = false := by cases b <;> first | rfl | exact absurd ⟨_, rfl⟩ hb
      refine .inr ⟨h1, h2, ?_⟩
      match ks, h with
      | [], h => exfalso; cases a <;> first | exact absurd ⟨_, rfl⟩ ha | skip
                 all_goals (cases b <;> first | exact absurd ⟨_, rfl⟩ hb | (simp [eqK] at h))
      | [k], h => refine ⟨k, rfl, ?_⟩; cases a <;> first | exact absurd ⟨_, rfl⟩ ha | skip
                  all_goals (cases b <;> first | exact absurd ⟨_, rfl⟩ hb | (simpa [eqK] using h))
      | _ :: _ :: _, h => exfalso; cases a <;> first | exact absurd ⟨_, rfl⟩ ha | skip
                          all_goals (cases b <;> first | exact absurd ⟨_, rfl⟩ hb | (simp [eqK] at h))

/-- A key, and another value of its type, as cells. -/
theorem eqK_shape {ks : List Kd} {a b : AV} {a' b' : Value} {r : Bool} {t : TypeId} (h : eqK ks a b = some r) (ha : VR ρ a a') (hb : VR ρ b b')
    (hagg : aggT P t = some a.isAgg) :
    ∃ xs ys xs' ys', a' = mkV P t xs' ∧ b' = mkV P t ys' ∧ VRL ρ xs xs' ∧ VRL ρ ys ys' ∧ xs.length = ks.length ∧ ys.length = ks.length ∧ eqSK ks xs ys = some r := by
  rcases eqK_cases h with ⟨xs, ys, rfl, rfl, l1, l2, he⟩ | ⟨h1, h2, kd, rfl, he⟩
  · cases ha with
    | agg _ vs hv =>
      cases hb with
      | agg _ us hu => exact ⟨xs, ys, vs.toList, us.toList, (mkV_agg hagg).symm, (mkV_agg hagg).symm, hv, hu, l1, l2, he⟩
  · rw [h1] at hagg
    refine ⟨[a], [b], [a'], [b'], (mkV_one hagg).symm, (mkV_one hagg).symm, .cons _ _ _ _ ha .nil, .cons _ _ _ _ hb .nil, rfl, rfl, ?_⟩
    simp only [eqSK, he]
    cases r <;> rfl

theorem keyOk_spec {kt : TypeId} {k : AV} {ks : List Kd} (h : keyOk P kt k = some ks) :
    kindsT P 8 kt = some ks ∧ aggT P kt = some k.isAgg ∧ eqK ks k k = some true := by
  unfold keyOk at h
  cases hk : kindsT P 8 kt with
  | none => rw [hk] at h; cases h
  | some ks' =>
    rw [hk] at h
    simp only at h
    split at h
    · rename_i hc
      cases h
      exact ⟨rfl, hc⟩
    · cases h

theorem equal_run {kt : TypeId} {k x : AV} {k' x' : Value} {ks : List Kd} {r : Bool} (h : keyOk P kt k = some ks) (he : eqK ks k x = some r) (hk : VR ρ k k') (hx : VR ρ x x') (w : World) :
    (Op.equal kt k' x').run P w = .ok r w := by
  obtain ⟨h1, h2, -⟩ := keyOk_spec h
  obtain ⟨xs, ys, xs', ys', rfl, rfl, r1, r2, l1, l2, e⟩ := eqK_shape he hk hx h2
  exact (eqT 8 kt ks 10000 h1 (by omega)).2.2.2 xs ys xs' ys' r w r1 r2 l1 l2 e

theorem checkKey_run {kt : TypeId} {k : AV} {k' : Value} {ks : List Kd} (h : keyOk P kt k = some ks) (hk : VR ρ k k') (w : World) (em : Bool) :
    (Instr.checkKey em 10000 kt k').run P w = .ok () w := by
  obtain ⟨h1, h2, h3⟩ := keyOk_spec h
  obtain ⟨xs, ys, xs', ys', rfl, e2, r1, r2, l1, l2, e⟩ := eqK_shape h3 hk hk h2
  exact ckT 8 kt ks 10000 h1 (by omega) xs' w em (by rw [← r1.length]; exact l1)

theorem und_of_agg {t : TypeId} {b : Bool} (h : aggT P t = some b) : ∃ d, P.underlying t = some d ∧ aggD d = b := by
  cases hu : P.underlying t with
  | none => unfold aggT at h; rw [hu] at h; cases h
  | some d => rw [agg_of_und hu] at h; exact ⟨d, rfl, by simpa using h⟩

/-- What 'findKey' finds. -/
def Found (ks : List Kd) (k : AV) (es : List AEntry) (es' : List MapEntry) (s : Nat) : Option (Nat × AEntry) → Option (Nat × Value) → Prop
  | none, none => True
  | some (i, e), some (i', v') => i = i' ∧ s ≤ i ∧ es[i - s]? = some e ∧ eqK ks k e.key = some true ∧ ∃ e', es'[i - s]? = some e' ∧ v' = e'.val
  | _, _ => False

theorem Found.succ {ks : List Kd} {k : AV} {es : List AEntry} {es' : List MapEntry} {s : Nat} {e : AEntry} {e' : MapEntry} {a : Option (Nat × AEntry)} {b : Option (Nat × Value)}
    (h : Found ks k es es' (s + 1) a b) : Found ks k (e :: es) (e' :: es') s a b := by
  cases a with
  | none => cases b <;> first | trivial | exact h.elim
  | some x =>
    cases b with
    | none => exact h.elim
    | some y =>
      obtain ⟨h1, h2, h3, h4, e'', h5, h6⟩ := h
      have : x.1 - s = (x.1 - (s + 1)) + 1 := by omega
      exact ⟨h1, by omega, by rw [this]; exact h3, h4, e'', by rw [this]; exact h5, h6⟩

theorem findAsking_run {kt : TypeId} {k : AV} {k' : Value} {ks : List Kd} (h : keyOk P kt k = some ks) (hk : VR ρ k k') (w : World) {es : List AEntry} {es' : List MapEntry} (hes : ERL ρ es es') :
    ∀ (s : Nat) (res : Option (Nat × AEntry)), findA ks k es s = some res → ∃ res', (Instr.findAsking kt k' es' s).run P w = .ok res' w ∧ Found ks k es es' s res res' := by
  induction hes with
  | nil =>
    intro s res hf
    simp only [findA, Option.some.injEq] at hf
    subst hf
    exact ⟨none, by simp [Instr.findAsking], trivial⟩
  | cons e e' es es' he hes ih =>
    intro s res hf
    simp only [findA] at hf
    simp only [Instr.findAsking, Sem.run_bind]
    cases hq : eqK ks k e.key with
    | none => rw [hq] at hf; cases hf
    | some q =>
      rw [hq] at hf
      rw [equal_run h hq hk he.key w]
      cases q with
      | true =>
        simp only [Option.some.injEq] at hf
        subst hf
        exact ⟨some (s, e'.val), by simp, rfl, Nat.le_refl _, by simp, hq, e', by simp, rfl⟩
      | false =>
        obtain ⟨res', h1, h2⟩ := ih (s + 1) res hf
        exact ⟨res', by simpa using h1, h2.succ⟩

theorem sameNow_run {kd : Kd} {a b : AV} {a' b' : Value} {r : Bool} (h : eqKd kd a b = some r) (ha : VR ρ a a') (hb : VR ρ b b') : Instr.sameNow kd.desc a' b' = some r := by
  cases kd <;> cases ha <;> cases hb <;> simp [eqKd] at h
  case int.int.int k j n j' n' =>
    obtain ⟨⟨rfl, rfl⟩, rfl⟩ := h
    simp [Instr.sameNow, Kd.desc]
  case bool.bool.bool x y => subst h; simp [Instr.sameNow, Kd.desc]
  case str.str.str =>
    subst h
    simp only [Instr.sameNow, Kd.desc]
    rw [beq_toListBytes, ByteArray.toList_eq, ByteArray.toList_eq]
    simp

theorem findNow_run {kd : Kd} {k : AV} {k' : Value} (hk : VR ρ k k') {es : List AEntry} {es' : List MapEntry} (hes : ERL ρ es es') :
    ∀ (s : Nat) (res : Option (Nat × AEntry)), findA [kd] k es s = some res → (∀ cs, k ≠ .agg cs) → ∃ res', Instr.findNow kd.desc k' es' s = some res' ∧ Found [kd] k es es' s res res' := by
  induction hes with
  | nil =>
    intro s res hf _
    simp only [findA, Option.some.injEq] at hf
    subst hf
    exact ⟨none, rfl, trivial⟩
  | cons e e' es es' he hes ih =>
    intro s res hf hna
    simp only [findA] at hf
    simp only [Instr.findNow]
    cases hq : eqK [kd] k e.key with
    | none => rw [hq] at hf; cases hf
    | some q =>
      rw [hq] at hf
      have hq' : eqKd kd k e.key = some q := by
        rcases eqK_cases hq with ⟨xs, ys, rfl, -, -, -, -⟩ | ⟨-, -, kd', hk', he'⟩
        · exact absurd rfl (hna _)
        · cases hk'; exact he'
      rw [sameNow_run hq' hk he.key]
      cases q with
      | true =>
        simp only [Option.some.injEq] at hf
        subst hf
        exact ⟨some (s, e'.val), rfl, rfl, Nat.le_refl _, by simp, hq, e', by simp, rfl⟩
      | false =>
        obtain ⟨res', h1, h2⟩ := ih (s + 1) res hf hna
        exact ⟨res', h1, h2.succ⟩

theorem findKey_run {kt : TypeId} {k : AV} {k' : Value} {ks : List Kd} (h : keyOk P kt k = some ks) (hk : VR ρ k k') (w : World) {es : List AEntry} {es' : List MapEntry} (hes : ERL ρ es es')
    {res : Option (Nat × AEntry)} (hf : findA ks k es 0 = some res) : ∃ res', (Instr.findKey kt k' es').run P w = .ok res' w ∧ Found ks k es es' 0 res res' := by
  obtain ⟨h1, h2, h3⟩ := keyOk_spec h
  obtain ⟨d, hd, hda⟩ := und_of_agg h2
  by_cases hag : ∃ cs, k = .agg cs
  · obtain ⟨cs, rfl⟩ := hag
    cases hk with
    | agg _ vs hv =>
      have hnone : ∀ b : Value, Instr.sameNow d (.agg vs) b = none := by
        intro b; cases d <;> first | (cases hda; done) | rfl
      cases hes with
      | nil =>
        simp only [findA, Option.some.injEq] at hf
        subst hf
        exact ⟨none, by simp [Instr.findKey, run_underlying hd, Instr.findNow], trivial⟩
      | cons e e' es es' he hes =>
        obtain ⟨res', r1, r2⟩ := findAsking_run h (.agg cs vs hv) w (.cons e e' es es' he hes) 0 res hf
        exact ⟨res', by simp only [Instr.findKey, Sem.run_bind, run_underlying hd, Result.andThen_ok, Instr.findNow, hnone]; exact r1, r2⟩
  · have hna : ∀ cs, k ≠ .agg cs := fun cs hc => hag ⟨cs, hc⟩
    have hks : ∃ kd, ks = [kd] ∧ eqKd kd k k = some true := by
      rcases eqK_cases h3 with ⟨xs, ys, rfl, -, -, -, -⟩ | ⟨-, -, kd', hk', he'⟩
      · exact absurd rfl (hna _)
      · exact ⟨kd', hk', he'⟩
    have hkf : k.isAgg = false := by cases k <;> first | rfl | exact absurd rfl (hna _)
    rw [hkf] at hda
    obtain ⟨kd, rfl, hkd⟩ := hks
    have hdd : d = kd.desc := by
      unfold kindsT at h1
      simp only [hd] at h1
      cases d <;> first | (simp at h1; done) | skip
      case bool => (have h1' := (Option.ite_none_right_eq_some.1 h1).2; simp only [Option.some.injEq, List.cons.injEq, and_true] at h1'; rw [← h1']; rfl)
      case int q => (have h1' := (Option.ite_none_right_eq_some.1 h1).2; simp only [Option.some.injEq, List.cons.injEq, and_true] at h1'; rw [← h1']; rfl)
      case string => (have h1' := (Option.ite_none_right_eq_some.1 h1).2; simp only [Option.some.injEq, List.cons.injEq, and_true] at h1'; rw [← h1']; rfl)
      case array => cases hda
      case struct => cases hda
    subst hdd
    obtain ⟨res', r1, r2⟩ := findNow_run hk hes 0 res hf hna
    exact ⟨res', by simp [Instr.findKey, run_underlying hd, r1], r2⟩

theorem eqKd_true {kd : Kd} {a b : AV} {a' b' : Value} (h : eqKd kd a b = some true) (ha : VR ρ a a') (hb : VR ρ b b') (n : Nat) : Instr.sameBits n b' a' = true := by
  cases kd <;> cases ha <;> cases hb <;> simp [eqKd] at h
  case int.int.int k j n j' n' =>
    obtain ⟨⟨rfl, rfl⟩, rfl⟩ := h
    simp [Instr.sameBits]
  case bool.bool.bool x y => subst h; simp [Instr.sameBits]
  case str.str.str x y =>
    have : y = x := by cases x; cases y; simp_all
    subst this
    simp [Instr.sameBits, beq_toListBytes]

theorem eqSK_true {ks : List Kd} {as bs : List AV} {as' bs' : List Value} (h : eqSK ks as bs = some true) (ha : VRL ρ as as') (hb : VRL ρ bs bs') (n : Nat) :
    bs'.length = as'.length ∧ (bs'.zip as').all (fun p => Instr.sameBits n p.1 p.2) = true := by
  induction ks generalizing as bs as' bs' with
  | nil =>
    cases ha <;> cases hb <;> simp [eqSK] at h
    simp
  | cons k ks ih =>
    cases ha with
    | nil => cases hb <;> simp [eqSK] at h
    | cons a a' as as' ha1 ha2 =>
      cases hb with
      | nil => simp [eqSK] at h
      | cons b b' bs bs' hb1 hb2 =>
        simp only [eqSK] at h
        cases hq : eqKd k a b with
        | none => rw [hq] at h; cases h
        | some q =>
          rw [hq] at h
          cases q with
          | false => cases h
          | true =>
            obtain ⟨i1, i2⟩ := ih h ha2 hb2
            simp [i1, i2, eqKd_true hq ha1 hb1]

theorem keyStays_run {ks : List Kd} {k x : AV} {k' x' : Value} (h : eqK ks k x = some true) (hk : VR ρ k k') (hx : VR ρ x x') (w : World) : (Instr.keyThatStays x' k').run P w = .ok k' w := by
  have : Instr.sameBits 10000 x' k' = true := by
    rcases eqK_cases h with ⟨xs, ys, rfl, rfl, l1, l2, he⟩ | ⟨h1, h2, kd, rfl, he⟩
    · cases hk with
      | agg _ vs hv =>
        cases hx with
        | agg _ us hu =>
          obtain ⟨l, a⟩ := eqSK_true he hv hu 9999
          simp only [Instr.sameBits, Bool.and_eq_true, beq_iff_eq]
          exact ⟨by simpa using l, a⟩
    · exact eqKd_true he hk hx 10000
  simp [Instr.keyThatStays, this]

end
end Go.Am
