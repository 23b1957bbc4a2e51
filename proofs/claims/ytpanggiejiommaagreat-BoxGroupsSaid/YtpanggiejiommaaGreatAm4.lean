/- The abstract machine, part 4: equality of values, and keys of maps, as the model has them. -/
import Derived.Test.YtpanggiejiommaaGreatAm3
import Derived.ChangeKeysEq
namespace Go.Am
set_option autoImplicit false
set_option linter.all false

section
variable {P : Program} {ρ : Ren}

theorem cellsOf_of_size {t : TypeId} {s : Nat} (h : sizeT P t = some s) : P.cellsOf t = s := by
  unfold sizeT at h
  unfold Program.cellsOf
  rw [h]; rfl

theorem info_of_size {t : TypeId} {s : Nat} (h : sizeT P t = some s) : ∃ i, P.info? t = some i ∧ i.size = s := by
  unfold sizeT at h
  cases hi : P.info? t with
  | none => rw [hi] at h; cases h
  | some i => rw [hi] at h; simp at h; exact ⟨i, rfl, h⟩

theorem run_sizeT {t : TypeId} {s : Nat} (h : sizeT P t = some s) (w : World) : (sizeOf t).run P w = .ok s w := by
  obtain ⟨i, hi, hs⟩ := info_of_size h
  simp [sizeOf, typeInfo, hi, hs]

theorem run_isAgg {t : TypeId} {b : Bool} (h : aggT P t = some b) (w : World) : (isAgg t).run P w = .ok b w := by
  unfold aggT at h
  cases hu : P.underlying t with
  | none => rw [hu] at h; cases h
  | some d =>
    rw [hu] at h
    cases d <;> simp at h <;> subst h <;> simp [isAgg, run_underlying hu]

/-- The value of a type out of its cells. -/
def mkV (P : Program) (t : TypeId) (l : List Value) : Value := if aggT P t = some true then .agg l.toArray else l.headD undef

/-- A part of an aggregate, run. -/
theorem run_partV {t : TypeId} {s off : Nat} (cs : List Value) (w : World) (hs : sizeT P t = some s) (ha : (aggT P t).isSome = true) (h1 : aggT P t = some false → s = 1) (hl : off + s ≤ cs.length) :
    (part t cs.toArray off).run P w = .ok (mkV P t ((cs.drop off).take s)) w := by
  obtain ⟨b, hb⟩ := Option.isSome_iff_exists.1 ha
  unfold mkV
  cases b with
  | true => simp [part, run_isAgg hb, run_sizeT hs, hb, List.extract]
  | false =>
    have := h1 hb
    subst this
    have hlt : off < cs.length := by omega
    have hg : cs.toArray[off]? = some cs[off] := by rw [List.getElem?_toArray, List.getElem?_eq_getElem hlt]
    have hh : ((cs.drop off).take 1).headD undef = cs[off] := by rw [List.drop_eq_getElem_cons hlt]; rfl
    simp only [part, Sem.run_bind, run_isAgg hb, Result.andThen_ok, Bool.false_eq_true, if_false, hg, hb, Option.some.injEq, hh, Sem.run_pure]

theorem eqSK_append {ks ls : List Kd} {a b c d : List AV} (h : a.length = ks.length) (h' : b.length = ks.length) :
    eqSK (ks ++ ls) (a ++ c) (b ++ d) = (match eqSK ks a b with | some true => eqSK ls c d | some false => some false | none => none) := by
  induction ks generalizing a b with
  | nil => cases a <;> cases b <;> simp at h h'; rfl
  | cons k ks ih =>
    cases a with
    | nil => simp at h
    | cons x a =>
      cases b with
      | nil => simp at h'
      | cons y b =>
        simp only [List.cons_append, eqSK]
        cases eqKd k x y with
        | none => rfl
        | some r => cases r <;> simp [ih (by simpa using h) (by simpa using h')]

def Kd.desc : Kd → TypeDesc
  | .int k => .int k
  | .bool => .bool
  | .str => .string

theorem eqKd_run {k : Kd} {a b : AV} {a' b' : Value} {r : Bool} (h : eqKd k a b = some r) (ha : VR ρ a a') (hb : VR ρ b b') (w : World) (t : TypeId) (m : Nat)
    (hu : P.underlying t = some k.desc) : (Op.equalIn (m + 1) t a' b').run P w = .ok r w := by
  cases k <;> cases ha <;> cases hb <;> simp [eqKd] at h
  case int.int.int k j n j' n' =>
    obtain ⟨⟨rfl, rfl⟩, rfl⟩ := h
    simp [Op.equalIn, run_underlying hu, Kd.desc]
  case bool.bool.bool x y =>
    subst h
    simp [Op.equalIn, run_underlying hu, Kd.desc]
  case str.str.str =>
    subst h
    rw [run_equalIn_string w m t _ _ hu, ByteArray.toList_eq, ByteArray.toList_eq]
    simp

def aggD : TypeDesc → Bool
  | .struct _ | .array _ _ => true
  | _ => false

theorem agg_of_und {t : TypeId} {d : TypeDesc} (h : P.underlying t = some d) : aggT P t = some (aggD d) := by
  unfold aggT
  rw [h]
  cases d <;> rfl

/-- What is shown of a type's equality. -/
def EqT (P : Program) (ρ : Ren) (m : Nat) (t : TypeId) (ks : List Kd) : Prop :=
  sizeT P t = some ks.length ∧ (aggT P t).isSome = true ∧ (aggT P t = some false → ks.length = 1) ∧
  ∀ (xs ys : List AV) (xs' ys' : List Value) (r : Bool) (w : World), VRL ρ xs xs' → VRL ρ ys ys' → xs.length = ks.length → ys.length = ks.length → eqSK ks xs ys = some r →
    (Op.equalIn m t (mkV P t xs') (mkV P t ys')).run P w = .ok r w

theorem eqFields_run {m : Nat} (g : TypeId → Option (List Kd)) (hg : ∀ t ks, g t = some ks → EqT P ρ m t ks) {xs ys : List AV} {xs' ys' : List Value} (hx : VRL ρ xs xs') (hy : VRL ρ ys ys') :
    ∀ (fs : List Field) (off : Nat) (ks : List Kd) (r : Bool) (w : World), kindsF P g off fs = some ks → xs.length = off + ks.length → ys.length = off + ks.length →
      eqSK ks (xs.drop off) (ys.drop off) = some r → (Op.eqFields m xs'.toArray ys'.toArray fs).run P w = .ok r w := by
  intro fs
  induction fs with
  | nil =>
    intro off ks r w hk h1 h2 he
    simp only [kindsF, Option.some.injEq] at hk
    subst hk
    rw [List.drop_eq_nil_of_le (by simpa using Nat.le_of_eq h1), List.drop_eq_nil_of_le (by simpa using Nat.le_of_eq h2)] at he
    simp only [eqSK, Option.some.injEq] at he
    subst he
    simp [Op.eqFields]
  | cons f fs ih =>
    intro off ks r w hk h1 h2 he
    simp only [kindsF] at hk
    split at hk
    · rename_i hf
      obtain ⟨rfl, hn⟩ := hf
      cases hgf : g f.type with
      | none => rw [hgf] at hk; cases hk
      | some kf =>
        rw [hgf] at hk
        simp only [Option.map_eq_some_iff] at hk
        obtain ⟨kr, hkr, rfl⟩ := hk
        obtain ⟨e1, e2, e3, e4⟩ := hg _ _ hgf
        rw [List.length_append] at h1 h2
        have lx : f.offset + kf.length ≤ xs'.length := by rw [← hx.length]; omega
        have ly : f.offset + kf.length ≤ ys'.length := by rw [← hy.length]; omega
        have sx : xs.drop f.offset = (xs.drop f.offset).take kf.length ++ xs.drop (f.offset + kf.length) := by rw [← List.drop_drop, List.take_append_drop]
        have sy : ys.drop f.offset = (ys.drop f.offset).take kf.length ++ ys.drop (f.offset + kf.length) := by rw [← List.drop_drop, List.take_append_drop]
        have tx : ((xs.drop f.offset).take kf.length).length = kf.length := by simp; omega
        have ty : ((ys.drop f.offset).take kf.length).length = kf.length := by simp; omega
        rw [sx, sy, eqSK_append tx ty] at he
        simp only [Op.eqFields, hn, ne_eq, not_false_eq_true, if_true, Sem.run_bind, run_partV xs' w e1 e2 e3 lx, run_partV ys' w e1 e2 e3 ly, Result.andThen_ok]
        cases hq : eqSK kf ((xs.drop f.offset).take kf.length) ((ys.drop f.offset).take kf.length) with
        | none => rw [hq] at he; cases he
        | some q =>
          rw [hq] at he
          rw [e4 _ _ _ _ q w ((hx.drop _).take _) ((hy.drop _).take _) tx ty hq]
          cases q with
          | false => simp only [Option.some.injEq] at he; subst he; simp
          | true => simp; exact ih _ kr r w hkr (by omega) (by omega) he
    · cases hk

theorem eqItems_run {m : Nat} {e : TypeId} {ke : List Kd} (hE : EqT P ρ m e ke) {xs ys : List AV} {xs' ys' : List Value} (hx : VRL ρ xs xs') (hy : VRL ρ ys ys') :
    ∀ (n i : Nat) (r : Bool) (w : World), xs.length = (i + n) * ke.length → ys.length = (i + n) * ke.length →
      eqSK (timesL n ke) (xs.drop (i * ke.length)) (ys.drop (i * ke.length)) = some r → (Op.eqItems m e ke.length xs'.toArray ys'.toArray (List.range' i n)).run P w = .ok r w := by
  obtain ⟨e1, e2, e3, e4⟩ := hE
  intro n
  induction n with
  | zero =>
    intro i r w h1 h2 he
    rw [List.drop_eq_nil_of_le (by simpa using Nat.le_of_eq h1), List.drop_eq_nil_of_le (by simpa using Nat.le_of_eq h2)] at he
    simp only [timesL, eqSK, Option.some.injEq] at he
    subst he
    simp [Op.eqItems]
  | succ n ih =>
    intro i r w h1 h2 he
    have hm : (i + (n + 1)) * ke.length = i * ke.length + ke.length + n * ke.length := by rw [Nat.add_mul, Nat.succ_mul]; omega
    have hm' : (i + 1) * ke.length = i * ke.length + ke.length := by rw [Nat.succ_mul]
    have lx : i * ke.length + ke.length ≤ xs'.length := by rw [← hx.length]; omega
    have ly : i * ke.length + ke.length ≤ ys'.length := by rw [← hy.length]; omega
    have sx : xs.drop (i * ke.length) = (xs.drop (i * ke.length)).take ke.length ++ xs.drop ((i + 1) * ke.length) := by rw [hm', ← List.drop_drop, List.take_append_drop]
    have sy : ys.drop (i * ke.length) = (ys.drop (i * ke.length)).take ke.length ++ ys.drop ((i + 1) * ke.length) := by rw [hm', ← List.drop_drop, List.take_append_drop]
    have tx : ((xs.drop (i * ke.length)).take ke.length).length = ke.length := by simp; omega
    have ty : ((ys.drop (i * ke.length)).take ke.length).length = ke.length := by simp; omega
    rw [sx, sy] at he
    simp only [timesL] at he
    rw [eqSK_append tx ty] at he
    simp only [List.range'_succ, Op.eqItems, Sem.run_bind, run_partV xs' w e1 e2 e3 lx, run_partV ys' w e1 e2 e3 ly, Result.andThen_ok]
    cases hq : eqSK ke ((xs.drop (i * ke.length)).take ke.length) ((ys.drop (i * ke.length)).take ke.length) with
    | none => rw [hq] at he; cases he
    | some q =>
      rw [hq] at he
      rw [e4 _ _ _ _ q w ((hx.drop _).take _) ((hy.drop _).take _) tx ty hq]
      cases q with
      | false => simp only [Option.some.injEq] at he; subst he; simp
      | true => simp; exact ih (i + 1) r w (by rw [h1]; congr 1; omega) (by rw [h2]; congr 1; omega) he

theorem length_timesL {α : Type} (n : Nat) (l : List α) : (timesL n l).length = n * l.length := by
  induction n with
  | zero => simp [timesL]
  | succ n ih => simp [timesL, ih, Nat.succ_mul]; omega

theorem eqT (d : Nat) : ∀ (t : TypeId) (ks : List Kd) (m : Nat), kindsT P d t = some ks → d ≤ m → EqT P ρ m t ks := by
  induction d with
  | zero => intro t ks m h; simp [kindsT] at h
  | succ d ih =>
    intro t ks m h hm
    obtain ⟨m, rfl⟩ : ∃ q, m = q + 1 := ⟨m - 1, by omega⟩
    unfold kindsT at h
    cases hu : P.underlying t with
    | none => simp [hu] at h
    | some td =>
      have hagg := agg_of_und hu
      have scalar : ∀ k : Kd, td = k.desc → sizeT P t = some 1 → EqT P ρ (m + 1) t [k] := by
        intro k hk hs
        have hf : aggT P t = some false := by rw [hagg, hk]; cases k <;> rfl
        refine ⟨hs, by rw [hf]; rfl, fun _ => rfl, fun xs ys xs' ys' r w hx hy lx ly he => ?_⟩
        cases hx with
        | nil => simp at lx
        | cons x x' xs xs' hx1 hx2 =>
          cases hy with
          | nil => simp at ly
          | cons y y' ys ys' hy1 hy2 =>
            cases hx2 with
            | cons => simp at lx
            | nil =>
              cases hy2 with
              | cons => simp at ly
              | nil =>
                simp only [mkV, hf, Option.some.injEq, Bool.false_eq_true, if_false, List.headD_cons]
                simp only [eqSK] at he
                cases hq : eqKd k x y with
                | none => rw [hq] at he; cases he
                | some q =>
                  rw [hq] at he
                  have : q = r := by cases q <;> simpa using he
                  subst this
                  exact eqKd_run hq hx1 hy1 w t m (by rw [hu, hk])
      cases td <;> simp only [hu] at h <;> first | (simp at h; done) | skip
      case bool =>
        split at h <;> simp at h
        obtain rfl := h
        exact scalar .bool rfl (by assumption)
      case int k =>
        split at h <;> simp at h
        obtain rfl := h
        exact scalar (.int k) rfl (by assumption)
      case string =>
        split at h <;> simp at h
        obtain rfl := h
        exact scalar .str rfl (by assumption)
      case array n e =>
        cases hke : kindsT P d e with
        | none => simp [hke] at h
        | some ke =>
          simp only [hke, Option.map_some] at h
          split at h
          · rename_i hs
            simp only [Option.some.injEq] at h
            subst h
            have hE := ih e ke m hke (by omega)
            obtain ⟨i, hi, his⟩ := info_of_size hE.1
            have hc := cellsOf_of_size hE.1
            have hf : aggT P t = some true := hagg
            refine ⟨hs, by rw [hf]; rfl, fun h' => (by rw [hf] at h'; cases h'), fun xs ys xs' ys' r w hx hy lx ly he => ?_⟩
            simp only [mkV, hf, if_true]
            rw [run_equalIn_array w m xs'.toArray ys'.toArray hu hi, hc, List.range_eq_range']
            rw [length_timesL] at lx ly
            exact eqItems_run hE hx hy n 0 r w (by simpa using lx) (by simpa using ly) (by simpa using he)
          · cases h
      case struct fs =>
        by_cases hsi : P.stoodInHeld t = true
        · simp [hsi] at h
        · simp only [hsi, Bool.false_eq_true, if_false] at h
          cases hkf : kindsF P (kindsT P d) 0 fs.toList with
          | none => simp [hkf] at h
          | some kf =>
            simp only [hkf] at h
            split at h
            · rename_i hs
              simp only [Option.some.injEq] at h
              subst h
              have hf : aggT P t = some true := hagg
              have hfs : P.fieldsOf t = fs := by simp [Program.fieldsOf, hu]
              refine ⟨hs, by rw [hf]; rfl, fun h' => (by rw [hf] at h'; cases h'), fun xs ys xs' ys' r w hx hy lx ly he => ?_⟩
              simp only [mkV, hf, if_true]
              rw [run_equalIn_struct w m t xs'.toArray ys'.toArray (by rw [hfs]; exact hu) (by simpa using hsi), hfs]
              exact eqFields_run (kindsT P d) (fun t' ks' h' => ih t' ks' m h' (by omega)) hx hy fs.toList 0 kf r w hkf (by simpa using lx) (by simpa using ly) (by simpa using he)
            · cases h

end
end Go.Am
