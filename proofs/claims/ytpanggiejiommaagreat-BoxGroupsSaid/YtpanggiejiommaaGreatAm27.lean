/- The abstract machine, part 27: plain code comes to what the code comes to. -/
import Derived.Test.YtpanggiejiommaaGreatAm26
namespace Go.Am
set_option autoImplicit false
set_option linter.all false
open Go

section
variable {P : Program} {G : Nat} {S : Sm Prop} {ts : List AV} {h : Heap} {k : AV → Heap → Prop}

def opOf (o : Op) : Oper := ⟨none, o, 0, "", #[], none⟩

theorem evT_xv (G : Nat) (ts : List AV) (x : Operand) : evT G ts x = xv ts (cxO G x) := by
  cases x <;> simp [evT, xv, cxO, List.getD_eq_getElem?_getD]
theorem ev_xv (a : AAct) (G : Nat) (x : Operand) : a.ev G x = xv a.tmps (cxO G x) := evT_xv G a.tmps x
theorem map_xv (G : Nat) (ts : List AV) (xs : List Operand) : (xs.map (cxO G)).map (xv ts) = xs.map (evT G ts) := by
  rw [List.map_map]; exact List.map_congr_left fun x _ => (evT_xv G ts x).symm
theorem map2_xv (G : Nat) (ts : List AV) (ps : List (Nat × Operand)) : (ps.map fun p => (p.1, cxO G p.2)).map (fun p => (p.1, xv ts p.2)) = ps.map fun p => (p.1, evT G ts p.2) := by
  rw [List.map_map]; exact List.map_congr_left fun x _ => by simp [evT_xv]

theorem opF_op (ev : Operand → AV) (o : Oper) : opF P DProp S ev o h k = opF P DProp S ev (opOf o.op) h k := rfl
theorem effF_op (ev : Operand → AV) (o : Oper) : effF P DProp S ev o h k = effF P DProp S ev (opOf o.op) h k := rfl
theorem cls_op (ev : Operand → AV) (o : Oper) : cls P ev o = cls P ev (opOf o.op) := rfl
theorem isEff_op (o : Op) : isEff o = isEff (opOf o).op := rfl

theorem loadA_ldA {t : TypeId} {g : Bool} {s : Nat} (hg : aggT P t = some g) (hs : sizeT P t = some s) (o : Nat) : loadA P t o = ldA g s o := by
  funext x
  cases x <;> simp [loadA, ldA, hg, hs]
  cases g <;> simp

theorem part_eq {t : TypeId} {g : Bool} {s : Nat} (hg : aggT P t = some g) (hs : sizeT P t = some s) (cs : List AV) (o : Nat) : partA P t cs o = part g s o (.agg cs) := by
  simp only [partA, part, hg, hs]
  cases g <;> simp

theorem appendA_eq {t e : TypeId} {s by_ : Nat} {z : AV} (he : elemT P t = some e) (hs : sizeT P e = some s) (hb : bytesT P e = some by_) (hz : zeroT P e = some z) (hc : 0 < s ∧ z.cells.length = s ∧ z.cells.all AV.one = true ∧ 0 < by_) (x y : AV) (h : Heap) :
    appendA P t x y h = appC s by_ x y h := by
  unfold appendA appC
  rw [he]
  simp only [hs, hb, hz, Option.getD_some]
  cases srcA s h y with
  | none => rfl
  | some p =>
    obtain ⟨m, new⟩ := p
    simp only
    rw [if_pos hc]
    rfl

/-- The two look-ups agree where the plain one answers. -/
def Agree (P : Program) (G : Nat) (ts : List AV) (o : Op) (co : CO) : Prop :=
  isEffO co = isEff o ∧ (isEffO co = false → clsO P G ts co ≠ .none → cls P (evT G ts) (opOf o) = clsO P G ts co) ∧
  (∀ (S : Sm Prop) (h : Heap) (k : AV → Heap → Prop), isEffO co = true → effO P G S ts h k co → effF P DProp S (evT G ts) (opOf o) h k) ∧ (tagC P co = tagOf P o ∧ ∀ op, co = .gen op → op = o)

theorem Agree.pure {o : Op} {co : CO} (h1 : isEffO co = false) (h2 : isEff o = false) (h3 : clsO P G ts co ≠ .none → cls P (evT G ts) (opOf o) = clsO P G ts co) (h4 : tagC P co = tagOf P o := by rfl) (h5 : ∀ op, co = .gen op → op = o := by intro op h; cases h) : Agree P G ts o co :=
  ⟨by rw [h1, h2], fun _ => h3, fun _ _ _ h => by rw [h1] at h; (cases h), h4, h5⟩
theorem Agree.eff {o : Op} {co : CO} (h1 : isEffO co = true) (h2 : isEff o = true) (h3 : ∀ (S : Sm Prop) (h : Heap) (k : AV → Heap → Prop), effO P G S ts h k co → effF P DProp S (evT G ts) (opOf o) h k) (h4 : tagC P co = tagOf P o := by rfl) (h5 : ∀ op, co = .gen op → op = o := by intro op h; cases h) : Agree P G ts o co :=
  ⟨by rw [h1, h2], fun h => by rw [h1] at h; (cases h), fun S h k _ => h3 S h k, h4, h5⟩
theorem Agree.gen (o : Op) : Agree P G ts o (.gen o) :=
  ⟨rfl, fun h1 _ => by
    have h2 : isEff o = false := h1
    show cls P (evT G ts) (opOf o) = if isEff o = true then .none else cls P (evT G ts) (opOf o)
    rw [if_neg (by rw [h2]; simp)], fun _ _ _ _ h => h, rfl, fun op h => by cases h; rfl⟩

set_option maxHeartbeats 2000000 in
theorem agree_call {c : Call} {co : CO} (hc : copC P c (cxO G) = some co) : Agree P G ts (.call c) co := by
  unfold copC at hc
  split at hc
  · rename_i f hcal
    cases hc
    refine Agree.eff rfl (by simp [isEff, hcal]) fun S h k hs => ?_
    have : effF P DProp S (evT G ts) (opOf (.call c)) h k = callV P DProp S (evT G ts f) (c.args.toList.map (evT G ts)) h k := by
      obtain ⟨cal, args, at'⟩ := c
      simp only at hcal
      subst hcal
      rfl
    rw [this]
    have hs : callV P DProp S (xv ts (cxO G f)) ((c.args.toList.map (cxO G)).map (xv ts)) h k := hs
    rw [map_xv, ← evT_xv] at hs
    exact hs
  · rename_i t ts' x xs hcal hty hargs
    have hx : ∃ y ys, c.args.toList = y :: ys ∧ x = cxO G y := by
      cases hl : c.args.toList with
      | nil => rw [hl] at hargs; simp at hargs
      | cons y ys => rw [hl] at hargs; simp at hargs; exact ⟨y, ys, rfl, hargs.1.symm⟩
    obtain ⟨y, ys, hl, rfl⟩ := hx
    have hcls : cls P (evT G ts) (opOf (.call c)) = lenA P t (evT G ts y) := by
      simp only [cls, opOf, hcal, hty, hl, List.map_cons]
    have heff : isEff (.call c) = false := by simp [isEff, hcal]
    split at hc
    · rename_i hu; cases hc
      refine Agree.pure rfl heff fun hn => ?_
      rw [hcls, evT_xv]
      clear hcls
      generalize hv : xv ts (cxO G y) = v at hn ⊢
      cases v <;> simp_all [clsO, lenA, strLen, Cls.ofO]
    · rename_i e hu; cases hc
      refine Agree.pure rfl heff fun hn => ?_
      rw [hcls, evT_xv]
      clear hcls
      generalize hv : xv ts (cxO G y) = v at hn ⊢
      cases v <;> simp_all [clsO, lenA, slLen, Cls.ofO]
    · rename_i a b hu; cases hc
      refine Agree.pure rfl heff fun hn => ?_
      rw [hcls, evT_xv]
      clear hcls
      generalize hv : xv ts (cxO G y) = v at hn ⊢
      cases v <;> simp_all [clsO, lenA, Cls.ofO]
      funext x
      cases x <;> rfl
    · cases hc
  · rename_i t u ts' x y xs hcal hty hargs
    have hx : ∃ x' y' ys, c.args.toList = x' :: y' :: ys ∧ x = cxO G x' ∧ y = cxO G y' := by
      cases hl : c.args.toList with
      | nil => rw [hl] at hargs; simp at hargs
      | cons a l =>
        cases l with
        | nil => rw [hl] at hargs; simp at hargs
        | cons b l => rw [hl] at hargs; simp at hargs; exact ⟨a, b, l, rfl, hargs.1.symm, hargs.2.1.symm⟩
    obtain ⟨x', y', ys, hl, rfl, rfl⟩ := hx
    split at hc
    · cases hc
    · cases hc
    · rename_i d hni hd
      split at hc
      · rename_i e he
        split at hc
        · rename_i s by_ z hs hb hz
          split at hc
          · rename_i hcond
            cases hc
            refine Agree.eff rfl (by simp [isEff, hcal]) fun S h k hs' => ?_
            have hA : effA P (evT G ts) (opOf (.call c)) h = (appendA P t (evT G ts x') (evT G ts y') h).map fun r => (r.1, tagAp P t (evT G ts x') h r.1 r.2) := by
              simp only [effA, opOf, hcal, hty, hl, List.map_cons]
              split
              · rename_i k' hk; rw [hd] at hk; cases hk; exact absurd rfl (hni k')
              · rename_i hk; rw [hd] at hk; cases hk
              · rfl
            have hE : effF P DProp S (evT G ts) (opOf (.call c)) h k = match effA P (evT G ts) (opOf (.call c)) h with | some (v, h) => k v h | none => False := by
              obtain ⟨cal, args, at'⟩ := c
              simp only at hcal
              subst hcal
              rfl
            have hT : ∀ v h', tagAp P t (evT G ts x') h v h' = h' := by
              intro v h'
              unfold tagAp
              rw [he]
              cases v <;> simp [hcond.2]
            rw [hE, hA, appendA_eq he hs hb hz hcond.1, evT_xv, evT_xv]
            have hs' : (match appC s by_ (xv ts (cxO G x')) (xv ts (cxO G y')) h with | some (v, h) => k v h | none => False) := hs'
            split at hs'
            · rename_i v h1 hap
              simp only [hap, Option.map_some]
              rw [← evT_xv, hT]
              exact hs'
            · exact hs'.elim
          · cases hc
        · cases hc
      · cases hc
  · cases hc

set_option maxHeartbeats 4000000 in
theorem agree_cop {o : Op} {co : CO} (hc : copO P (cxO G) o = some co) : Agree P G ts o co := by
  cases o with
  | move x => cases hc; exact Agree.pure rfl rfl fun _ => by simp [cls, opOf, clsO, evT_xv]
  | assign x => cases hc; exact Agree.pure rfl rfl fun _ => by simp [cls, opOf, clsO, evT_xv]
  | pick c a b =>
    cases hc
    refine Agree.pure rfl rfl fun hn => ?_
    simp only [cls, opOf, clsO, evT_xv] at hn ⊢
    rfl
  | alloc t =>
    simp only [copO] at hc
    split at hc
    · cases hc
    · rename_i hbl
      split at hc
      · rename_i z hz
        split at hc
        · rename_i ha; cases hc; exact Agree.pure rfl rfl (fun _ => by simp only [cls, opOf, clsO, hz, ha, if_true]) (by simp [tagC, tagOf, hbl])
        · cases hc
      · cases hc
  | box t x => cases hc; exact Agree.pure rfl rfl fun _ => by simp only [cls, opOf, clsO, evT_xv]
  | build t ps =>
    simp only [copO] at hc
    split at hc
    · rename_i z hz
      split at hc
      · rename_i ha
        split at hc
        · rename_i fs hu
          split at hc
          · rename_i pl hpl
            cases hc
            exact Agree.pure rfl rfl fun _ => by simp only [cls, opOf, clsO, buildA, hz, ha, if_true, hu, hpl, map2_xv]
          · cases hc
        · cases hc
      · cases hc
    · cases hc
  | buildSlice t len ps =>
    simp only [copO] at hc
    split at hc
    · cases hc
    · rename_i e he
      split at hc
      · rename_i z s hz hs
        split at hc
        · rename_i hcond
          cases hc
          refine Agree.pure rfl rfl fun hn => ?_
          simp only [cls, opOf, clsO, he, hz, hs, map2_xv] at hn ⊢
          rw [if_pos hcond]
          cases hf : fillA (fun i => some (i * s, s)) (zerosA z.cells len) (ps.toList.map fun p => (p.1, evT G ts p.2)) <;> simp
        · cases hc
      · cases hc
  | load t a =>
    simp only [copO] at hc
    split at hc
    · rename_i g s hg hs
      cases hc
      refine Agree.pure rfl rfl fun hn => ?_
      simp only [cls, opOf, clsO, evT_xv] at hn ⊢
      split <;> simp_all [loadA_ldA]
    · cases hc
  | store t a v =>
    simp only [copO] at hc
    split at hc
    · rename_i s hs
      cases hc
      refine Agree.eff rfl rfl fun S h k hk => ?_
      simp only [effO] at hk
      simp only [effF, opOf, effA, storeA, evT_xv, hs]
      split at hk
      · rename_i b o ha
        split at hk
        · rename_i cs hb
          rw [ha]
          simp only [hb]
          rw [if_pos hk.1]
          exact hk.2
        · exact hk.elim
      · exact hk.elim
    · cases hc
  | nilCheck x =>
    cases hc
    refine Agree.pure rfl rfl fun hn => ?_
    simp only [cls, opOf, clsO, evT_xv] at hn ⊢
    rfl
  | binOp op t x y u =>
    simp only [copO] at hc
    split at hc
    · split at hc
      · rename_i hsh
        cases hc
        refine Agree.pure rfl rfl fun hn => ?_
        simp only [cls, opOf, clsO, evT_xv] at hn ⊢
        split at hn
        · rename_i a b h1 h2
          simp only [h1, h2, binA, hsh, if_true]
        · exact absurd rfl hn
      · rename_i hsh
        cases hc
        refine Agree.pure rfl rfl fun hn => ?_
        simp only [cls, opOf, clsO, evT_xv] at hn ⊢
        split at hn
        · rename_i a b h1 h2
          simp only [h1, h2, binA]
          split at hn
          · rename_i hk
            rw [if_neg hsh, if_pos hk, if_pos hk]
          · exact absurd rfl hn
        · exact absurd rfl hn
    · split at hc
      · cases hc
        refine Agree.pure rfl rfl fun hn => ?_
        simp only [cls, opOf, clsO, evT_xv] at hn ⊢
        split at hn
        · rename_i a b h1 h2
          simp only [h1, h2, binA]
        · exact absurd rfl hn
      · split at hc
        · rename_i hb
          cases hc
          have hu : P.underlying t = some .bool := by
            unfold isBoolT at hb
            split at hb
            · assumption
            · cases hb
          refine Agree.pure rfl rfl fun hn => ?_
          simp only [cls, opOf, clsO, evT_xv] at hn ⊢
          split at hn
          · rename_i a b h1 h2
            simp only [h1, h2, binA, eqA, hu]
          · exact absurd rfl hn
        · cases hc
  | unOp op t x => cases hc; exact Agree.pure rfl rfl fun _ => by simp only [cls, opOf, clsO, evT_xv]
  | convert s d x =>
    simp only [copO] at hc
    split at hc
    · rename_i k k' h1 h2
      cases hc
      refine Agree.pure rfl rfl fun hn => ?_
      simp only [cls, opOf, clsO, evT_xv, h1, h2] at hn ⊢
      split at hn
      · rename_i hx
        simp [hx, convA, h1, h2, Cls.ofO]
      · exact absurd rfl hn
    · cases hc
  | makeInterface t x =>
    simp only [copO] at hc
    split at hc
    · cases hc
    · cases hc
    · rename_i d hni hd
      cases hc
      refine Agree.pure rfl rfl fun hn => ?_
      simp only [cls, opOf, clsO, evT_xv]
      split
      · rename_i m hm; rw [hd] at hm; cases hm; exact absurd rfl (hni _)
      · rename_i hm; rw [hd] at hm; cases hm
      · rfl
  | makeFunc f a c =>
    simp only [copO] at hc
    split at hc
    · cases hc
      exact Agree.pure rfl rfl fun hn => by simp only [cls, opOf, clsO, map_xv]
    · cases hc
  | makeSlice t l c =>
    simp only [copO] at hc
    split at hc
    · rename_i e he
      split at hc
      · rename_i z s by_ hz hs hb
        split at hc
        · rename_i hcond
          cases hc
          refine Agree.pure rfl rfl fun hn => ?_
          simp only [cls, opOf, clsO, evT_xv, he] at hn ⊢
          split at hn
          · rename_i l' c' h1 h2
            simp only [h1, h2, hz, hs, hb]
            split at hn
            · rename_i hr
              rw [if_pos ⟨hr.1, hr.2.1, hr.2.2.1, hr.2.2.2, hcond⟩, if_pos hr]
            · exact absurd rfl hn
          · exact absurd rfl hn
        · cases hc
      · cases hc
    · cases hc
  | fieldAddr t x f =>
    simp only [copO] at hc
    split at hc
    · rename_i fs hfs
      split at hc
      · rename_i fd hfd
        split at hc
        · rename_i n hn'
          cases hc
          refine Agree.pure rfl rfl fun hn => ?_
          simp only [cls, opOf, clsO, evT_xv, hfs] at hn ⊢
          split at hn
          · rename_i b o hx
            simp only [hx, hfd, hn']
          · exact absurd rfl hn
        · cases hc
      · cases hc
    · cases hc
  | field t x f =>
    simp only [copO] at hc
    split at hc
    · rename_i fs hfs
      split at hc
      · rename_i fd hfd
        split at hc
        · rename_i g s hg hs
          cases hc
          refine Agree.pure rfl rfl fun hn => ?_
          simp only [cls, opOf, clsO, evT_xv, hfs] at hn ⊢
          generalize hx : xv ts (cxO G x) = v at hn ⊢
          cases v with
          | agg cs => simp only [hfd, part_eq hg hs]
          | _ => exact absurd rfl hn
        · cases hc
      · cases hc
    · cases hc
  | indexAddr t x i =>
    simp only [copO] at hc
    split at hc
    · rename_i e hu
      split at hc
      · rename_i s hs
        cases hc
        refine Agree.pure rfl rfl fun hn => ?_
        simp only [cls, opOf, clsO, evT_xv, indexAddrA, hu] at hn ⊢
        generalize xv ts (cxO G x) = v at hn ⊢
        generalize xv ts (cxO G i) = j at hn ⊢
        cases v <;> cases j <;> first | (exact absurd rfl hn) | simp only [idxA, hs]
      · cases hc
    · rename_i n e hu
      split at hc
      · rename_i s hs
        cases hc
        refine Agree.pure rfl rfl fun hn => ?_
        simp only [cls, opOf, clsO, evT_xv, indexAddrA, hu] at hn ⊢
        generalize xv ts (cxO G x) = v at hn ⊢
        generalize xv ts (cxO G i) = j at hn ⊢
        cases v <;> cases j <;> first | (exact absurd rfl hn) | simp only [idxAA, hs]
      · cases hc
    · cases hc
  | index t x i =>
    simp only [copO] at hc
    split at hc
    · rename_i hu
      cases hc
      refine Agree.pure rfl rfl fun hn => ?_
      simp only [cls, opOf, clsO, evT_xv, indexA, hu] at hn ⊢
      generalize xv ts (cxO G x) = v at hn ⊢
      generalize xv ts (cxO G i) = j at hn ⊢
      cases v <;> cases j <;> first | (exact absurd rfl hn) | rfl
    · cases hc
  | extract x i =>
    cases hc
    refine Agree.pure rfl rfl fun hn => ?_
    simp only [cls, opOf, clsO, evT_xv] at hn ⊢
    rfl
  | call c => exact agree_call hc
  | _ => cases hc

theorem agree (o : Op) : Agree P P.globals.size ts o (cop P o) := by
  unfold cop
  cases hc : copO P (cxO P.globals.size) o with
  | none => exact Agree.gen o
  | some co => exact agree_cop hc

/-- One operation. -/
theorem runO_sound {o : Oper} (hs : runO P P.globals.size S ts h k (cop P o.op)) : opF P DProp S (evT P.globals.size ts) o h k := by
  rw [opF_op]
  obtain ⟨a1, a2, a3, a4, a5⟩ := agree (P := P) (ts := ts) o.op
  unfold runO at hs
  unfold opF
  show if isEff o.op = true then _ else _
  split at hs
  · rename_i he
    rw [if_pos (by rw [← a1]; exact he)]
    exact a3 S h k he hs
  · rename_i he
    have he' : isEffO (cop P o.op) = false := by simpa using he
    have a1' : isEffO (cop P o.op) = isEff (opOf o.op).op := a1
    rw [if_neg (by rw [← a1]; exact he)]
    split at hs
    · rename_i v hc; rw [a2 he' (by rw [hc]; simp), hc]; exact hs
    · rename_i b f hc
      rw [a2 he' (by rw [hc]; simp), hc]
      simp only
      cases hb : h.get b with
      | none => rw [hb] at hs; exact hs.elim
      | some x =>
        rw [hb] at hs
        simp only [Option.bind_some] at hs ⊢
        cases hf : f x with
        | none => rw [hf] at hs; exact hs.elim
        | some v => rw [hf] at hs; exact hs
    · rename_i x g hc
      rw [a2 he' (by rw [hc]; simp), hc]
      rw [a4] at hs
      exact hs
    · rename_i hc
      split at hs
      · rename_i op hop
        have := a5 op hop
        subst this
        have hcl : cls P (evT P.globals.size ts) (opOf o.op) = .none := by
          have h1 : clsO P P.globals.size ts (.gen o.op) = .none := by rw [← hop]; exact hc
          have h2 : isEff o.op = false := by rw [← a1]; exact he'
          have h3 : (if isEff o.op = true then Cls.none else cls P (evT P.globals.size ts) (opOf o.op)) = Cls.none := h1
          rw [if_neg (by rw [h2]; simp)] at h3
          exact h3
        rw [hcl]
        exact hs
      · exact hs.elim

theorem wantO_sound {ops : Array Oper} {o : Oper} {co : COp} (hc : copOp P ops o = some co) {a : AAct} {yes no : Prop} (hw : wantO a co.g yes no) :
    co.dst = o.dst ∧ co.op = cop P o.op ∧ ((wantedA ops a.tmps o = some true ∧ yes) ∨ (wantedA ops a.tmps o = some false ∧ no)) := by
  unfold copOp at hc
  unfold wantedA
  cases hg : o.guard with
  | none =>
    rw [hg] at hc
    simp only [Option.some.injEq] at hc
    subst hc
    exact ⟨rfl, rfl, .inl ⟨rfl, hw⟩⟩
  | some p =>
    obtain ⟨j, w⟩ := p
    rw [hg] at hc
    simp only at hc ⊢
    cases hd : (ops[j]?).bind (·.dst) with
    | none => rw [hd] at hc; simp at hc
    | some d =>
      rw [hd] at hc
      simp only [Option.some.injEq] at hc
      subst hc
      refine ⟨rfl, rfl, ?_⟩
      simp only [wantO] at hw
      simp only [Option.bind_some]
      cases ht : a.tmps[d]? with
      | none => rw [ht] at hw; exact .inr ⟨rfl, hw⟩
      | some v =>
        rw [ht] at hw
        cases v with
        | bool b =>
          simp only at hw
          by_cases hb : b = w
          · subst hb; exact .inl ⟨by simp, hw.1 rfl⟩
          · have : b = !w := by cases b <;> cases w <;> simp_all
            subst this
            exact .inr ⟨by simp, hw.2 rfl⟩
        | junk => exact hw.elim
        | _ => exact .inr ⟨rfl, hw⟩

/-! ### What stands behind may say more -/

theorem roundF_mono {l : Nat} {args : List AV} {h : Heap} {k k' : AV → Heap → Prop} (hk : ∀ v h', k v h' → k' v h') (hs : roundF DProp (SM P) l args h k) : roundF DProp (SM P) l args h k' := by
  unfold roundF at hs ⊢
  split at hs
  · rename_i st pend tmps ps as bd df hl
    split at hs
    · rename_i hlen
      rw [if_pos hlen]
      refine AWp.mono hs fun e a h1 _ hs1 => ?_
      split at hs1
      · rename_i hl1
        refine AWp.mono hs1 fun e2 a2 h2 _ hs2 => ?_
        split at hs2
        · rename_i hl2
          cases e2 with
          | normal => exact hk _ _ hs2
          | ret => exact hk _ _ hs2
          | exit id => exact hk _ _ hs2
          | goto _ => exact hs2
        · exact hs2
      · exact hs1
    · exact hs.elim
  · exact hs.elim

theorem callV_mono {f : AV} {args : List AV} {h : Heap} {k k' : AV → Heap → Prop} (hk : ∀ v h', k v h' → k' v h') (hs : callV P DProp (SM P) f args h k) : callV P DProp (SM P) f args h k' := by
  unfold callV at hs ⊢
  split at hs
  · split at hs
    · split at hs
      · exact hk _ _ hs
      · exact hs.elim
    · exact ACa.mono hs fun v h' _ => hk v h'
  · exact roundF_mono hk hs
  · exact hs.elim

theorem nextF_mono {it : AV} {b : Bool} {h : Heap} {k k' : AV → Heap → Prop} (hk : ∀ v h', k v h' → k' v h') (hs : nextF DProp it b h k) : nextF DProp it b h k' := by
  unfold nextF at hs ⊢
  split at hs
  · split at hs
    · split at hs
      · rename_i hlt; rw [if_pos hlt]; exact hk _ _ hs
      · rename_i hlt; rw [if_neg hlt]; exact hk _ _ hs
    · exact hk _ _ hs
    · split at hs
      · unfold nextM at hs ⊢
        split at hs
        · exact hs.elim
        · rename_i hc
          rw [if_neg hc]
          dsimp only at hs ⊢
          intro p hp
          rw [List.mem_append] at hp
          rcases hp with hp | hp
          · split at hp
            · rename_i he
              simp only [List.mem_singleton] at hp
              subst hp
              exact hk _ _ (hs _ (List.mem_append_left _ (by rw [if_pos he]; simp)))
            · simp at hp
          · obtain ⟨e, he, rfl⟩ := List.mem_map.1 hp
            exact hk _ _ (hs _ (List.mem_append_right _ (List.mem_map_of_mem he)))
      · exact hs.elim
    · exact hs.elim
  · exact hs.elim

theorem entryF_mono {it : AV} {h : Heap} {k k' : AV → Heap → Prop} (hk : ∀ v h', k v h' → k' v h') (hs : entryF DProp it h k) : entryF DProp it h k' := by
  unfold entryF at hs ⊢
  repeat' (split at hs)
  all_goals first | exact hk _ _ hs | exact hs.elim | (rename_i hc _ _ _; exact hs.elim) | skip
  all_goals (try (rename_i h1 _ _ h2; rw [if_pos (by assumption)]; exact hk _ _ hs))

theorem effF_mono {ev : Operand → AV} {o : Oper} {h : Heap} {k k' : AV → Heap → Prop} (hk : ∀ v h', k v h' → k' v h') (hs : effF P DProp (SM P) ev o h k) : effF P DProp (SM P) ev o h k' := by
  unfold effF at hs ⊢
  split at hs
  · exact nextF_mono hk hs
  · exact entryF_mono hk hs
  · exact callV_mono hk hs
  · split at hs
    · exact hk _ _ hs
    · exact hs.elim

theorem effO_mono {ts : List AV} {h : Heap} {k k' : AV → Heap → Prop} {co : CO} (hk : ∀ v h', k v h' → k' v h') (hs : effO P G (SM P) ts h k co) : effO P G (SM P) ts h k' co := by
  cases co with
  | store s a v =>
    simp only [effO] at hs ⊢
    split at hs
    · split at hs
      · exact ⟨hs.1, hk _ _ hs.2⟩
      · exact hs.elim
    · exact hs.elim
  | call f args => exact callV_mono hk hs
  | app s b x y =>
    simp only [effO] at hs ⊢
    split at hs
    · exact hk _ _ hs
    · exact hs.elim
  | gen op => exact effF_mono hk hs
  | _ => exact hs.elim

theorem runO_mono {ts : List AV} {h : Heap} {k k' : AV → Heap → Prop} {co : CO} (hk : ∀ v h', k v h' → k' v h') (hs : runO P G (SM P) ts h k co) : runO P G (SM P) ts h k' co := by
  unfold runO at hs ⊢
  split at hs
  · rename_i he; rw [if_pos he]; exact effO_mono hk hs
  · rename_i he
    rw [if_neg he]
    split at hs
    · exact hk _ _ hs
    · split at hs
      · exact hk _ _ hs
      · exact hs.elim
    · exact hk _ _ hs
    · split at hs
      · split at hs
        · exact hk _ _ hs
        · exact hs.elim
      · exact hs.elim

theorem runOps_sound (ops : Array Oper) : ∀ (l : List Oper) (cl : List COp), l.mapM (copOp P ops) = some cl → ∀ (a : AAct) (h : Heap) (k : AAct → Heap → Prop), runOps P P.globals.size (SM P) cl a h k → opsF P DProp (SM P) ops l a h k
  | [], cl, hc, a, h, k, hs => by
    simp at hc; subst hc
    exact hs
  | o :: l, cl, hc, a, h, k, hs => by
    rw [List.mapM_cons] at hc
    cases ho : copOp P ops o with
    | none => rw [ho] at hc; simp at hc
    | some co =>
      rw [ho] at hc
      cases hl : l.mapM (copOp P ops) with
      | none => rw [hl] at hc; simp at hc
      | some cl' =>
        rw [hl] at hc
        simp at hc
        subst hc
        simp only [runOps] at hs
        simp only [opsF]
        obtain ⟨e1, e2, e3⟩ := wantO_sound ho hs
        rw [e1, e2] at e3
        rcases e3 with ⟨w, hy⟩ | ⟨w, hn⟩
        · rw [w]
          exact runO_sound (runO_mono (fun v h' => runOps_sound ops l cl' hl _ _ _) hy)
        · rw [w]
          exact runOps_sound ops l cl' hl _ _ _ hn

theorem keptF_mono {b : Nat} {h h' : Heap} {r r' : Prop} (hr : r → r') : ∀ {fs : List Foot}, keptF DProp b h h' fs r → keptF DProp b h h' fs r'
  | [], hs => hr hs
  | .rd i x f v :: rest, hs => by
    simp only [keptF] at hs ⊢
    split at hs
    · rename_i hb; rw [if_pos hb]; exact keptF_mono hr hs
    · rename_i hb; rw [if_neg hb]; exact ⟨hs.1, keptF_mono hr hs.2⟩
  | .al i x :: rest, hs => by
    simp only [keptF] at hs ⊢
    split at hs
    · rename_i hb; rw [if_pos hb]; exact keptF_mono hr hs
    · rename_i hb; rw [if_neg hb]; exact ⟨hs.1, keptF_mono hr hs.2⟩

theorem runDraw_sound (ops : Array Oper) : ∀ (l : List Nat) (cl : List (Nat × Nat × COp)), (l.mapM fun i => (copOp P ops (ops.getD i default)).map fun c => (i, (Region.before ops).getD i 0, c)) = some cl →
    ∀ (fs : List Foot) (a : AAct) (h : Heap) (k : AAct → Heap → Prop), runDraw P P.globals.size (SM P) cl fs a h k → drawF P DProp (SM P) ops l fs a h k
  | [], cl, hc, fs, a, h, k, hs => by
    simp at hc; subst hc
    exact hs
  | i :: l, cl, hc, fs, a, h, k, hs => by
    rw [List.mapM_cons] at hc
    cases ho : copOp P ops (ops.getD i default) with
    | none => rw [ho] at hc; simp at hc
    | some co =>
      rw [ho] at hc
      cases hl : (l.mapM fun i => (copOp P ops (ops.getD i default)).map fun c => (i, (Region.before ops).getD i 0, c)) with
      | none => rw [hl] at hc; simp at hc
      | some cl' =>
        rw [hl] at hc
        have hc : some ((i, (Region.before ops).getD i 0, co) :: cl') = some cl := hc
        cases hc
        simp only [runDraw] at hs
        simp only [drawF]
        obtain ⟨e1, e2, e3⟩ := wantO_sound ho hs
        rw [e1, e2] at e3
        have ih := fun fs a h k => runDraw_sound ops l cl' hl fs a h k
        rcases e3 with ⟨w, hy⟩ | ⟨w, hn⟩
        · rw [w]
          obtain ⟨a1, a2, a3, a4, a5⟩ := agree (P := P) (ts := a.tmps) (ops.getD i default).op
          simp only
          split at hy
          · rename_i he
            rw [if_pos (by rw [← a1]; exact he)]
            rw [effF_op]
            exact effF_mono (fun v h' => keptF_mono (ih _ _ _ _)) (a3 (SM P) h _ he hy)
          · rename_i he
            have he' : isEffO (cop P (ops.getD i default).op) = false := by simpa using he
            rw [if_neg (by rw [← a1]; exact he), cls_op]
            have ha : a.ev P.globals.size = evT P.globals.size a.tmps := rfl
            rw [ha]
            split at hy
            · rename_i v hc; rw [a2 he' (by rw [hc]; simp), hc]; exact ih _ _ _ _ hy
            · rename_i b f hc
              rw [a2 he' (by rw [hc]; simp), hc]
              simp only
              cases hb : h.get b with
              | none => rw [hb] at hy; exact hy.elim
              | some x =>
                rw [hb] at hy
                simp only [Option.bind_some] at hy ⊢
                cases hf : f x with
                | none => rw [hf] at hy; exact hy.elim
                | some v => rw [hf] at hy; exact ih _ _ _ _ hy
            · rename_i x g hc; rw [a2 he' (by rw [hc]; simp), hc]; exact ih _ _ _ _ hy
            · exact hy.elim
        · rw [w]
          exact ih _ _ _ _ hn

/-! ### Code -/

theorem runC_sound (hm : P.follows .mixedOrders = true) : ∀ (c : Code) (a : AAct) (h : Heap) (k : AExit → AAct → Heap → Prop), runC P P.globals.size (compC P c) a h k → AWp P c a h k
  | .skip, a, h, k, hs => AWp.skip hm hs
  | .label l, a, h, k, hs => AWp.step hm (by simp) hs
  | .region i ops false, a, h, k, hs => by
    simp only [compC] at hs
    split at hs
    · rename_i l hl
      exact AWp.region hm (runOps_sound ops _ _ hl _ _ _ hs)
    · exact hs
  | .region i ops true, a, h, k, hs => by
    simp only [compC] at hs
    split at hs
    · rename_i hd
      split at hs
      · rename_i l hl
        exact AWp.regionDraw hm hd (runDraw_sound ops _ _ hl _ _ _ _ hs)
      · exact hs
    · exact hs
  | .seq x y, a, h, k, hs => by
    refine AWp.seq hm (AWp.mono (runC_sound hm x a h _ hs) fun e a' h' _ hs' => ?_)
    cases e with
    | normal => exact runC_sound hm y a' h' k hs'
    | _ => exact hs'
  | .cond c x y, a, h, k, hs => by
    simp only [compC, runC] at hs
    split at hs
    · rename_i b hb
      refine AWp.cond hm (b := b) (by rw [ev_xv]; exact hb) (fun e => runC_sound hm x a h k (hs.1 e)) (fun e => runC_sound hm y a h k (hs.2 e))
    · exact hs.elim
  | .block id c, a, h, k, hs => by
    refine AWp.block hm (AWp.mono (runC_sound hm c a h _ hs) fun e a' h' _ hs' => ?_)
    cases e <;> exact hs'
  | .loop c, a, h, k, hs => hs (.loop c) rfl
  | .exit id, a, h, k, hs => AWp.exit hm hs
  | .ret, a, h, k, hs => AWp.ret hm hs
  | .rangeFunc _ _ _ _, a, h, k, hs => hs
  | .scope _, a, h, k, hs => hs
  | .goto _, a, h, k, hs => hs
  | .refuse _, a, h, k, hs => hs

theorem AWc.run (hm : P.follows .mixedOrders = true) {c : CC} {a : AAct} {h : Heap} {k : AExit → AAct → Heap → Prop} (hs : runC P P.globals.size c a h k) : AWc P c a h k := by
  intro c' hc
  subst hc
  exact runC_sound hm c' a h k hs
theorem AWc.mono {c : CC} {a : AAct} {h : Heap} {k k' : AExit → AAct → Heap → Prop} (hs : AWc P c a h k) (hk : ∀ e a' h', h.n ≤ h'.n → Low h' → k e a' h' → k' e a' h') : AWc P c a h k' :=
  fun c' hc => (hs c' hc).monoL hk
theorem AWc.low {c : CC} {a : AAct} {h : Heap} {k : AExit → AAct → Heap → Prop} (hs : Low h → AWc P c a h k) : AWc P c a h k :=
  fun c' hc => AWp.low fun hl => hs hl c' hc

theorem compC_loop {c' : Code} {c : CC} (hc : compC P c' = .loop c) : ∃ c'', c' = .loop c'' ∧ compC P c'' = c := by
  cases c' with
  | loop c'' => simp only [compC, CC.loop.injEq] at hc; exact ⟨c'', rfl, hc⟩
  | region i ops d =>
    cases d <;> simp only [compC] at hc <;> repeat' (split at hc)
    all_goals cases hc
  | _ => simp [compC] at hc

/-- A loop, with a ghost that a measure lessens. -/
theorem AWc.loopG {σ : Type} {c : CC} {k : AExit → AAct → Heap → Prop} (μ : σ → Nat) (I : σ → AAct → Heap → Prop)
    (hb : ∀ s a h, Low h → I s a h → AWc P c a h fun e a' h' => match e with | .normal => ∃ s', I s' a' h' ∧ μ s' < μ s | e => k e a' h') {s : σ} {a : AAct} {h : Heap} (hi : I s a h) : AWc P (.loop c) a h k := by
  intro c' hc
  obtain ⟨c'', rfl, hc2⟩ := compC_loop hc
  exact AWp.loopG μ I (fun s a h hi => AWp.low fun hl => hb s a h hl hi c'' hc2) hi

/-- A function, laid out plainly. -/
theorem ACa.introC (hm : P.follows .mixedOrders = true) {f : FuncId} {n : Nat} {res : List ResultVar} {c : CC} (hf : lookC P f = some (n, res, c)) {args : List AV} {h : Heap} {k : AV → Heap → Prop}
    (hs : Low h → runC P P.globals.size c ⟨args ++ List.replicate (n - args.length) .un, [], none⟩ h (endC P res k)) : ACa P f args h k := by
  unfold lookC at hf
  split at hf
  · rename_i fn hfn
    split at hf
    · cases hf
    · rename_i hname
      obtain ⟨c', hb, he⟩ := Option.map_eq_some_iff.1 hf
      cases he
      have hname : (fn.name == "runtime.NumGoroutine") = false := by simpa using hname
      refine ACa.introL (by simp [fnOk, hfn, hb]; simpa using hname) fun hl => ?_
      unfold caF
      rw [hfn]
      simp only [hb]
      rw [if_neg (by rw [hname]; simp)]
      refine AWp.mono (runC_sound hm c' _ h _ (hs hl)) fun e a h' _ hq => ?_
      simp only [endC] at hq
      cases e <;> first | exact hq | exact hq.elim
  · cases hf

end
end Go.Am
