/- The abstract machine, part 23: from a call of the machine's to a law's statement. -/
import Derived.Test.YtpanggiejiommaaGreatAm22
import Derived.ProofKit
namespace Go.Am
set_option autoImplicit false
set_option linter.all false
open Go Go.ChangeShapes Go.WideShapes Go.ChangeAt Go.RowKit

section
variable {H : Type} {enc : TypeId × Value → H} {P : Program}

theorem trodAll_below (hl : laidOutB P = true) {W W' : World} (hb : Below W.heap.size W W') (sp : Nat → Bool) : ∀ {ts : List TypeId} {vs : List Value} {ds : List (DataW H)} {ps : List MemPlace}, (∀ t ∈ ts, P.readableRec t = true ∧ t < P.types.size) →
    DataW.TrodAll enc P W 0 (fun _ => true) true ts vs ds ps → (∀ x ∈ ps, x.block < W.heap.size ∧ sp x.block = true) → DataW.TrodAll enc P W' 0 sp true ts vs ds ps := by
  intro ts
  induction ts with
  | nil =>
    intro vs ds ps _ h _
    obtain ⟨rfl, rfl, rfl⟩ := trodAll_nil h
    simp [DataW.TrodAll]
  | cons t ts ih =>
    intro vs ds ps ht h hp
    obtain ⟨v, vs', d, ds', p, q, rfl, rfl, rfl, h1, h2⟩ := trodAll_cons h
    obtain ⟨r1, r2⟩ := ht t (by simp)
    exact ⟨p, q, WideElems.Trod_stays hl r1 r2 h1 (fun x hx => hb.same (hp x (by simp [hx])).1) (fun x hx => (hp x (by simp [hx])).2), ih (fun t ht' => ht t (by simp [ht'])) h2 (fun x hx => hp x (by simp [hx])), rfl⟩

theorem Below.keptAll {W W' : World} (hb : Below W.heap.size W W') (may : MemPlace → Prop) : W.keptBut W' may := by
  refine ⟨hb.os, hb.output, fun i hi => ?_⟩
  rw [hb.block i hi]
  cases W.heap[i]? with
  | none => rfl
  | some o => cases o <;> simp

/-- A law of plain data, that holds, and has changed nothing that was there. -/
theorem post_below {f : Func} {s : ChangeSpec} {apart fresh handsOn again : Bool} {W W' : World} {args : Array Value} {ds gs : List (DataW H)} {before : List MemPlace} (hl : laidOutB P = true)
    (hW : DataW.Whole enc P f.params.toList s.vars apart W args.toList ds gs before) (hb : Below W.heap.size W W') (hpar : ∀ t ∈ f.params.toList, P.readableRec t = true ∧ t < P.types.size) (hvs : s.vars = [])
    (hfn : s.fn H ds = { results := [.lit (.bool true)], args := ds }) {bt : TypeId} (hrt : f.resultTypes = #[bt]) (hbt : P.underlying bt = some .bool) : s.post enc P f apart fresh handsOn again W args (.bool true) W' := by
  have hlt := hW.lt
  obtain ⟨p, q, hA, hV, hpq, hfz, hnd⟩ := hW
  have hV0 := hV
  rw [hvs] at hV
  obtain ⟨rfl, rfl⟩ := trodVars_none hV
  have hbef : before = p := by simpa using hpq
  subst hbef
  have hargs : ∀ sp : Nat → Bool, (∀ x ∈ before, sp x.block = true) → DataW.TrodAll enc P W' 0 sp true f.params.toList args.toList (s.fn H (ds ++ [])).args before := fun sp hsp => by
    rw [List.append_nil, hfn]
    exact trodAll_below hl hb sp hpar hA fun x hx => ⟨hlt x hx, hsp x hx⟩
  have hres : ∀ (b : Nat) (sp : Nat → Bool) (hd : Bool), DataW.TrodAll enc P W' b sp hd f.resultTypes.toList ((Value.bool true).resultList f.resultTypes.size) (s.fn H (ds ++ [])).results [] := fun b sp hd => by
    rw [List.append_nil, hfn, hrt]
    exact trodAll_mk1 (shut_bool hbt true)
  have hvars : ∀ sp : Nat → Bool, DataW.TrodVars enc P W' sp s.vars (s.fn H (ds ++ [])).vars [] := fun sp => by
    rw [List.append_nil, hfn, hvs]; rfl
  have hold : ∀ x ∈ before, (fun b => decide (b < W.heap.size)) x.block = true := fun x hx => by simpa using hlt x hx
  have hW : DataW.Whole enc P f.params.toList s.vars apart W args.toList ds [] before := ⟨before, [], hA, hV0, by simp, hfz, hnd⟩
  refine ⟨ds, [], before, [], before, [], hW, hres _ _ _, hargs _ hold, hvars _, Below.keptAll hb _, fun _ => ⟨ok_one hrt rfl (okWide_bool_mk hbt true), [.lit (.bool true)] ++ ds, [], before, ⟨before, [], ?_, by rw [hvs]; rfl, by simp, ?_, fun ha => hnd ha⟩, ?_⟩⟩
  · have h1 := hres 0 (fun _ => true) true
    have h2 := hargs (fun _ => true) (fun _ _ => rfl)
    rw [List.append_nil, hfn] at h1 h2
    have := trodAll_append h2 h1
    simpa using this
  · intro b off hx
    have h1 := hfz b off hx
    have h2 := hlt _ hx
    unfold World.frozen? at h1 ⊢
    rw [show W'.heap[b]? = W.heap[b]? from hb.block b h2]
    exact h1
  · intro x hx _; simpa using hx

/-- From what the machine says to a call of the model's. -/
theorem ACa.calls {f : FuncId} {args : List AV} {h : Heap} {k : AV → Heap → Prop} (hc : ACa P f args h k) {W : World} {ρ : Ren} {cargs : Array Value} (Hr : HR P.globals.size (fun i => i < W.heap.size) W ρ h W) (ha : VRL ρ args cargs.toList) (hk : ∀ v h', k v h' → v = .bool true) :
    Calls P f cargs W fun e W' => e = .returned (.bool true) ∧ Below W.heap.size W W' := by
  refine callsIn_wide.1 (hc.2 _ _ ρ W cargs _ Hr ha fun ρ' v h' cv w' h1 h2 h3 h4 => ?_)
  have hv := hk v h' h1
  subst hv
  cases h4
  refine ⟨rfl, h3.os, h3.tape, h3.output, ?_, fun i hi => (h3.keep i hi).2⟩
  by_cases hz : W.heap.size = 0
  · omega
  · have := (h3.keep (W.heap.size - 1) (by show W.heap.size - 1 < W.heap.size; omega)).1
    omega

end
end Go.Am
