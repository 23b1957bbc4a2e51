/- The abstract machine, part 15: a region that draws its order. -/
import Derived.Test.YtpanggiejiommaaGreatAm14
namespace Go.Am
set_option autoImplicit false
set_option linter.all false
open Go

/-! ### What an operation sees of the temporaries -/

section
variable {P : Program} {G : Nat} {h : Heap}

theorem AAct.ev_put {a : AAct} {dst : Option Tmp} {v : AV} {x : Operand} (hn : ∀ d, dst = some d → x ≠ .tmp d) : (a.put dst v).ev G x = a.ev G x := by
  cases dst with
  | none => rfl
  | some d =>
    cases x with
    | tmp t =>
      have hne : d ≠ t := fun e => hn d rfl (e ▸ rfl)
      show (a.tmps.set d v).getD t .un = a.tmps.getD t .un
      rw [List.getD_eq_getElem?_getD, List.getD_eq_getElem?_getD, List.getElem?_set_ne hne]
    | _ => rfl

theorem AAct.put_comm (a : AAct) {d1 d2 : Option Tmp} (v1 v2 : AV) (hn : ∀ d, d1 = some d → d2 ≠ some d) : (a.put d1 v1).put d2 v2 = (a.put d2 v2).put d1 v1 := by
  cases d1 with
  | none => rfl
  | some x =>
    cases d2 with
    | none => rfl
    | some y =>
      have : x ≠ y := fun e => hn x rfl (e ▸ rfl)
      simp only [AAct.put]
      rw [List.set_comm _ _ this]

theorem wantedA_put {ops : Array Oper} {o : Oper} {a : AAct} {dst : Option Tmp} {v : AV} (hn : ∀ d, dst = some d → d ∉ o.looksAt ops) : wantedA ops (a.put dst v).tmps o = wantedA ops a.tmps o := by
  cases dst with
  | none => rfl
  | some d =>
    unfold wantedA
    cases hg : o.guard with
    | none => rfl
    | some gw =>
      obtain ⟨g, want⟩ := gw
      simp only
      cases ht : (ops[g]?).bind (·.dst) with
      | none => rfl
      | some t =>
        have hne : d ≠ t := fun e => hn d rfl (by subst e; simp [Oper.looksAt, hg, ht])
        simp only [Option.bind_some, AAct.put, List.getElem?_set_ne hne]

theorem operand_put {ops : Array Oper} {o : Oper} {a : AAct} {dst : Option Tmp} {v : AV} (hn : ∀ d, dst = some d → d ∉ o.looksAt ops) (x : Operand) (hx : x ∈ o.op.operands) : (a.put dst v).ev G x = a.ev G x :=
  AAct.ev_put fun d hd hxd => hn d hd (by
    subst hxd
    exact List.mem_append_left _ (List.mem_filterMap.2 ⟨.tmp d, by simpa using hx, rfl⟩))


theorem cls_congr {ev ev' : Operand → AV} (o : Oper) (hx : ∀ x ∈ o.op.operands, ev x = ev' x) : cls P ev o = cls P ev' o := by
  obtain ⟨dst, op, type, pos, after, guard⟩ := o
  have pairs : ∀ ps : Array (Nat × Operand), (∀ x ∈ ps.map (·.2), ev x = ev' x) → (ps.toList.map fun p => (p.1, ev p.2)) = (ps.toList.map fun p => (p.1, ev' p.2)) := fun ps hp =>
    List.map_congr_left fun p hm => by rw [hp p.2 (Array.mem_map.2 ⟨p, by simpa using hm, rfl⟩)]
  cases op <;> simp only [Op.operands] at hx <;> simp only [cls]
  case build t ps => rw [pairs ps fun x h => hx x (by simpa using h)]
  case buildSlice t n ps => rw [pairs ps fun x h => hx x (by simpa using h)]
  case makeFunc fn first captured =>
    rw [List.map_congr_left (l := first.toList) (g := ev') fun x h => hx x (by simp at h; simp [h]), List.map_congr_left (l := captured.toList) (g := ev') fun x h => hx x (by simp at h; simp [h])]
  case call c =>
    have : c.args.toList.map ev = c.args.toList.map ev' := List.map_congr_left fun x h => hx x (by simp at h; simp [Call.operands, h])
    rw [this]
  case makeMap t r => cases r <;> simp_all
  case slice t x lo hi mx => cases lo <;> cases hi <;> cases mx <;> simp_all
  all_goals (first | rfl | (simp_all; done))

theorem effA_congr {ev ev' : Operand → AV} (o : Oper) (hx : ∀ x ∈ o.op.operands, ev x = ev' x) : effA P ev o h = effA P ev' o h := by
  obtain ⟨dst, op, type, pos, after, guard⟩ := o
  cases op <;> simp only [Op.operands] at hx <;> simp only [effA]
  case call c =>
    have : c.args.toList.map ev = c.args.toList.map ev' := List.map_congr_left fun x h => hx x (by simp at h; simp [Call.operands, h])
    rw [this]
  all_goals (first | rfl | (simp_all; done))

theorem effF_congr {R : Type} {D : Dem R} {S : Sm R} {ev ev' : Operand → AV} {k : AV → Heap → R} (o : Oper) (hx : ∀ x ∈ o.op.operands, ev x = ev' x) : effF P D S ev o h k = effF P D S ev' o h k := by
  have he := effA_congr (P := P) (h := h) o hx
  unfold effF
  split
  · rename_i hop; rw [hop] at hx; rw [hx _ (by simp [Op.operands])]
  · rename_i hop; rw [hop] at hx; rw [hx _ (by simp [Op.operands])]
  · rename_i f args _ hop
    rw [hop] at hx
    rw [hx f (by simp [Op.operands, Call.operands]), List.map_congr_left (l := args.toList) (g := ev') fun x h => hx x (by simp at h; simp [Op.operands, Call.operands, h])]
  · rw [he]

end
end Go.Am
