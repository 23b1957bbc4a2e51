/- The abstract machine, part 11: the operations that change memory, put together; next and entry; calls' targets. -/
import Derived.Test.YtpanggiejiommaaGreatAm10
import Derived.Lib.UnsafeStr
namespace Go.Am
set_option autoImplicit false
set_option linter.all false
open Go

section
variable {P : Program} {G : Nat} {K : Nat → Prop} {w0 w : World} {ρ : Ren} {h : Heap} {ev : Operand → AV} {cev : Operand → Value}

theorem args2 {c : Array Operand} {x y : AV} {xs : List AV} (hev : ∀ x, VR ρ (ev x) (cev x)) (hc : c.toList.map ev = x :: y :: xs) :
    ∃ x' y' xs', c.map cev = (x' :: y' :: xs').toArray ∧ VR ρ x x' ∧ VR ρ y y' := by
  have hr := args_rel hev c.toList
  rw [hc] at hr
  generalize hca : c.toList.map cev = cargs at hr
  cases hr with
  | cons _ x' _ xs' hx hxs =>
    cases hxs with
    | cons _ y' _ ys' hy hys =>
      exact ⟨x', y', ys', by apply Array.ext'; simpa using hca, hx, hy⟩

theorem args1 {c : Array Operand} {x : AV} {xs : List AV} (hev : ∀ x, VR ρ (ev x) (cev x)) (hc : c.toList.map ev = x :: xs) :
    ∃ x' xs', c.map cev = (x' :: xs').toArray ∧ VR ρ x x' := by
  have hr := args_rel hev c.toList
  rw [hc] at hr
  generalize hca : c.toList.map cev = cargs at hr
  cases hr with
  | cons _ x' _ xs' hx hxs => exact ⟨x', xs', by apply Array.ext'; simpa using hca, hx⟩

theorem storeA_n {t : TypeId} {p v : AV} {h' : Heap} (hs : storeA P t p v h = some h') : h.n ≤ h'.n := by
  unfold storeA at hs
  repeat' (split at hs)
  all_goals first | (cases hs; exact Nat.le_refl _) | (cases hs; done)
theorem updA_n {t : TypeId} {m k v : AV} {h' : Heap} (hs : updA P t m k v h = some h') : h.n ≤ h'.n := by
  unfold updA at hs
  repeat' (split at hs)
  all_goals first | (cases hs; exact Nat.le_refl _) | (cases hs; done)
theorem entryA_n {t : TypeId} {m k v : AV} {h' : Heap} (hs : entryA P t m k h = some (v, h')) : h.n ≤ h'.n := by
  unfold entryA at hs
  repeat' (split at hs)
  all_goals first | (cases hs; exact Nat.le_refl _) | (cases hs; done)
theorem entryStoreA_n {m k v : AV} {h' : Heap} (hs : entryStoreA m k v h = some h') : h.n ≤ h'.n := by
  unfold entryStoreA at hs
  repeat' (split at hs)
  all_goals first | (cases hs; done) | skip
  obtain ⟨x, _, rfl⟩ := Option.map_eq_some_iff.1 hs
  exact Nat.le_refl _
theorem delA_n {t : TypeId} {m k v : AV} {h' : Heap} (hs : delA P t m k h = some (v, h')) : h.n ≤ h'.n := by
  unfold delA at hs
  repeat' (split at hs)
  all_goals first | (cases hs; exact Nat.le_refl _) | (cases hs; done)
theorem copyA_n {t : TypeId} {x y v : AV} {h' : Heap} (hs : copyA P t x y h = some (v, h')) : h.n ≤ h'.n := by
  unfold copyA at hs
  dsimp only at hs
  repeat' (split at hs)
  all_goals first | (cases hs; exact Nat.le_refl _) | (cases hs; done)
theorem clearA_n {t : TypeId} {x v : AV} {h' : Heap} (hs : clearA P t x h = some (v, h')) : h.n ≤ h'.n := by
  unfold clearA at hs
  repeat' (split at hs)
  all_goals first | (cases hs; exact Nat.le_refl _) | (cases hs; done)

/-! ### Bytes that are taken as a string -/

theorem sld_run {ats : Array TypeId} {ty : TypeId} {x v : AV} {x' : Value} (hs : sldA x = some v) (hx : VR ρ x x') : ∃ v', (∀ w, (Builtin.unsafeSliceData_ ats ty #[x']).run P w = .ok v' w) ∧ VR ρ v v' := by
  unfold sldA at hs
  split at hs
  · cases hs; cases hx
    exact ⟨_, fun w => Lib.run_unsafeSliceData_nil _ _ _ _ _, .nilp⟩
  · split at hs
    · cases hs
    · rename_i hc
      cases hs
      cases hx with
      | sl _ _ _ _ _ cb d c' hρ hn hcc hxx hkk =>
        have hc' : c' ≠ 0 := by omega
        exact ⟨_, fun w => Lib.run_unsafeSliceData_row _ _ _ _ _ _ hc', .ptr _ _ cb d hρ⟩
      | sl0 => exact absurd rfl hc
  · cases hs

theorem loadBytes_run {bs : List UInt8} {l : List AV} (hb : bytesOfA l = some bs) {l' : List Value} (hl : VRL ρ l l') : ∀ (a : Addr) (acc : ByteArray) (w : World), (∀ j v, l'[j]? = some v → w.cell? (a.add j) = some v) →
    (loadBytes a acc l'.length).run P w = .ok ⟨(acc.data.toList ++ bs).toArray⟩ w := by
  induction l generalizing l' bs with
  | nil =>
    cases hl
    simp only [bytesOfA, Option.some.injEq] at hb
    subst hb
    intro a acc w _
    simp [loadBytes]
  | cons x l ih =>
    cases hl with
    | cons _ v _ vs hv hvs =>
      have hk : ∃ n, x = .int .u8 n := by
        cases x <;> first | (simp [bytesOfA] at hb; done) | skip
        rename_i k n
        cases k <;> first | (simp [bytesOfA] at hb; done) | exact ⟨n, rfl⟩
      obtain ⟨n, rfl⟩ := hk
      simp only [bytesOfA] at hb
      obtain ⟨bs', q1, q2⟩ := Option.map_eq_some_iff.1 hb
      subst q2
      cases hv
      intro a acc w hc
      have h0 := hc 0 _ rfl
      have ha0 : a.add 0 = a := by simp [Addr.add]
      rw [ha0] at h0
      have ih' := ih q1 hvs (a.add 1) (acc.push (UInt8.ofNat n.toNat)) w (fun j v hj => by
        have := hc (j + 1) v (by simpa using hj)
        have e : (a.add 1).add j = a.add (j + 1) := by
          unfold Addr.add
          by_cases hj0 : j = 0
          · subst hj0; simp
          · simp [hj0]; omega
        rw [e]; exact this)
      simp only [List.length_cons, loadBytes, Sem.run_bind]
      have hld : (load a).run P w = .ok (.int .u8 n) w := by simp [load, Sem.run, h0]
      rw [hld]
      simp only [Result.andThen_ok]
      have e2 : n.toNat.toUInt8 = UInt8.ofNat n.toNat := rfl
      rw [e2, ih']
      simp

theorem liesAt_row {e : TypeId} {N off n : Nat} (hs : sizeT P e = some 1) (hn : off + n ≤ N) : liesAt P P.depth e (N / P.cellsOf e) off e n = true := by
  obtain ⟨i, hi, his⟩ := info_of_size hs
  have hc : P.cellsOf e = 1 := by simp [Program.cellsOf, hi, his]
  have hsame : sameLayout P P.depth e e = true := by
    rw [show P.depth = (2 * (P.types.size + Made.depth) + 1) + 1 from rfl]
    simp [sameLayout]
  rw [show liesAt P P.depth e (N / P.cellsOf e) off e n = liesAt P ((2 * (P.types.size + Made.depth) + 1) + 1) e (N / P.cellsOf e) off e n from rfl]
  unfold liesAt
  rw [Bool.or_eq_true]
  left
  rw [show P.depth = (2 * (P.types.size + Made.depth) + 1) + 1 from rfl] at hsame ⊢
  unfold rowAt
  rw [hc]
  simp [hsame, hn, Nat.mod_one]

theorem liesAt_one {e : TypeId} {N s : Nat} (hs : sizeT P e = some (s + 1)) (hn : s + 1 ≤ N) : liesAt P P.depth e (N / P.cellsOf e) 0 e 1 = true := by
  obtain ⟨i, hi, his⟩ := info_of_size hs
  have hc : P.cellsOf e = s + 1 := by simp [Program.cellsOf, hi, his]
  have hsame : sameLayout P P.depth e e = true := by
    rw [show P.depth = (2 * (P.types.size + Made.depth) + 1) + 1 from rfl]
    simp [sameLayout]
  rw [show liesAt P P.depth e (N / P.cellsOf e) 0 e 1 = liesAt P ((2 * (P.types.size + Made.depth) + 1) + 1) e (N / P.cellsOf e) 0 e 1 from rfl]
  unfold liesAt
  rw [Bool.or_eq_true]
  left
  rw [show P.depth = (2 * (P.types.size + Made.depth) + 1) + 1 from rfl] at hsame ⊢
  unfold rowAt
  rw [hc]
  have h1 : 1 ≤ N / (s + 1) := (Nat.le_div_iff_mul_le (by omega)).2 (by omega)
  simp [hsame, h1]

theorem shape_of {cb : Nat} {c : Array Value} {e : TypeId} {fz : Nat × Nat} (hg : w.heap[cb]? = some (.cells c e fz)) : w.shape? cb = some (e, c.size) := by
  simp [World.shape?, hg]
theorem run_shape {cb : Nat} {c : Array Value} {e : TypeId} {fz : Nat × Nat} (hg : w.heap[cb]? = some (.cells c e fz)) : (shape cb).run P w = .ok (some (e, c.size)) w := by
  simp [shape, Sem.run, World.shape?, hg]

theorem ustr_nil {t : TypeId} {ts : List TypeId} {ty : TypeId} {k : IntKind} {p : Option Addr} (w : World) : (Builtin.unsafeString_ (t :: ts).toArray ty #[.pointer p, .int k 0]).run P w = .ok (.string .empty) w := by
  have hmax : IntKind.i64.max = 9223372036854775807 := rfl
  cases p with
  | none =>
    have hdef : Builtin.unsafeString_ (t :: ts).toArray ty #[.pointer none, .int k 0] =
        (do
          let n ← asInt (.int k 0)
          if n < 0 then runtimePanic (.error "unsafe.String: len out of range")
          if n > IntKind.i64.max then unsupported (.unsafePointer "String: a length above the largest int")
          if n = 0 then pure (.string .empty)
          else runtimePanic (.error "unsafe.String: ptr is nil and len is not zero")) := rfl
    rw [hdef]
    simp [asInt, asIntOf, hmax]
  | some a =>
    have hdef : Builtin.unsafeString_ (t :: ts).toArray ty #[.pointer (some a), .int k 0] =
        (do
          let n ← asInt (.int k 0)
          if n < 0 then runtimePanic (.error "unsafe.String: len out of range")
          if n > IntKind.i64.max then unsupported (.unsafePointer "String: a length above the largest int")
          if n = 0 then pure (.string .empty)
          else if ← variablesAt a (← elemOf t) n.toNat then do
            let s ← loadBytes a .empty n.toNat
            freeze a n.toNat
            pure (.string s)
          else unsupported (.unsafePointer "String: not so many bytes at ptr")) := rfl
    rw [hdef]
    simp [asInt, asIntOf, hmax]

set_option maxHeartbeats 1000000 in
theorem ustr_run (H : HR G K w0 ρ h w) {t : TypeId} {ts : List TypeId} {ty : TypeId} {p n v : AV} {p' n' : Value} {h' : Heap} (hs : ustrA P t p n h = some (v, h')) (hp : VR ρ p p') (hn : VR ρ n n') :
    ∃ v' w', (Builtin.unsafeString_ (t :: ts).toArray ty #[p', n']).run P w = .ok v' w' ∧ VR ρ v v' ∧ HR G K w0 ρ h' w' ∧ h.n ≤ h'.n := by
  unfold ustrA at hs
  split at hs
  · split at hs
    · rename_i k n hn0
      cases hs; cases hp; cases hn
      subst hn0
      exact ⟨.string .empty, w, ustr_nil w, .str .empty, H, Nat.le_refl _⟩
    · cases hs
  · rename_i b o k n
    cases hn
    cases hp with
    | ptr _ _ cb d hρ =>
      split at hs
      · rename_i hn0
        cases hs
        subst hn0
        exact ⟨.string .empty, w, ustr_nil w, .str .empty, H, Nat.le_refl _⟩
      · rename_i hn0
        split at hs
        · cases hs
        · rename_i hrng
          split at hs
          · rename_i _ _ _ cs e q u hb hy hpt
            split at hs
            · rename_i hcond
              obtain ⟨heu, hsz, hlen⟩ := hcond
              subst heu
              split at hs
              · rename_i bs hbs
                cases hs
                unfold ptrT at hpt
                split at hpt
                · rename_i _ hu
                  cases hpt
                  obtain ⟨cb', d', c, fz, t1, t2, -⟩ := H.typ b e q hy
                  rw [hρ] at t1
                  cases t1
                  have hor := H.obj b _ cb d hb hρ
                  obtain ⟨l, k1, k2, k3, k4, -⟩ := cellsAt hor hlen
                  obtain ⟨c', e', fz', j1, ⟨j2, j2'⟩, j3, j4⟩ := hor
                  rw [t2] at j1
                  cases j1
                  have hld := loadBytes_run (P := P) hbs k2 ⟨cb, o + d, none⟩ .empty w k4
                  rw [k1] at hld
                  have hlie := liesAt_row (P := P) (e := e) (N := c.size) (off := o + d) (n := n.toNat) hsz (by omega)
                  have hsh := shape_of t2
                  have hfz : (freeze ⟨cb, o + d, none⟩ n.toNat).run P w = .ok () (w.freeze ⟨cb, o + d, none⟩ n.toNat) := by simp [freeze, Sem.run]
                  have hn1 : ¬ n < 0 := by omega
                  have hn2 : ¬ 9223372036854775807 < n := by omega
                  have hheap : ∀ i, (w.freeze ⟨cb, o + d, none⟩ n.toNat).heap[i]? = if i = cb then some (.cells c e (if fz.1 == fz.2 then (o + d, o + d + n.toNat) else (min fz.1 (o + d), max fz.2 (o + d + n.toNat)))) else w.heap[i]? := by
                    intro i
                    have hnz : ¬ n.toNat = 0 := by omega
                    simp only [World.freeze, hnz, if_false, Array.getElem?_modify]
                    by_cases hi : i = cb
                    · subst hi
                      obtain ⟨lo, hi'⟩ := fz
                      simp [t2]
                    · rw [if_neg (by omega), if_neg hi]
                  refine ⟨.string ⟨bs.toArray⟩, w.freeze ⟨cb, o + d, none⟩ n.toNat, ?_, ?_, ?_, Nat.le_refl _⟩
                  · have hdef : Builtin.unsafeString_ (t :: ts).toArray ty #[.pointer (some ⟨cb, o + d, none⟩), .int k n] =
                        (do
                          let n ← asInt (.int k n)
                          if n < 0 then runtimePanic (.error "unsafe.String: len out of range")
                          if n > IntKind.i64.max then unsupported (.unsafePointer "String: a length above the largest int")
                          if n = 0 then pure (.string .empty)
                          else if ← variablesAt ⟨cb, o + d, none⟩ (← elemOf t) n.toNat then do
                            let s ← loadBytes ⟨cb, o + d, none⟩ .empty n.toNat
                            freeze ⟨cb, o + d, none⟩ n.toNat
                            pure (.string s)
                          else unsupported (.unsafePointer "String: not so many bytes at ptr")) := rfl
                    have hmax : IntKind.i64.max = 9223372036854775807 := rfl
                    have hvar : (variablesAt ⟨cb, o + d, none⟩ e n.toNat).run P w = .ok true w := by simp [variablesAt, shape, program, Sem.run, hsh, hlie]
                    rw [hdef]
                    simp [asInt, asIntOf, hmax, hn1, hn2, hn0, elemOf, run_underlying hu, hvar, hld, hfz]
                  · exact .str ⟨bs.toArray⟩
                  · refine H.set (.cells cs false) hb rfl hρ ?_ ?_ ?_ ?_ (fun i _ hi => by rw [hheap, if_neg hi]) ?_ (fun c2 e2 fz2 h2 => by rw [hheap, if_pos rfl]; rw [t2] at h2; cases h2; exact ⟨_, _, rfl⟩)
                    · simp only [World.freeze]; split <;> rfl
                    · simp only [World.freeze]; split <;> rfl
                    · simp only [World.freeze]; split <;> rfl
                    · simp only [World.freeze]; split <;> simp
                    · rw [hheap, if_pos rfl]
                      exact ⟨c, e, _, rfl, ⟨j2, j2'⟩, j3, fun h0 => by cases h0⟩
                · cases hpt
              · cases hs
            · cases hs
          · cases hs
  · cases hs

set_option maxHeartbeats 1000000 in
theorem lookA'_run (H : HR G K w0 ρ h w) {o : Oper} {v : AV} {h' : Heap} (hs : lookA' P ev o h = some (v, h')) (hev : ∀ x, VR ρ (ev x) (cev x)) :
    ∃ ρ' v' w', (execOp cev o).run P w = .ok (.value v') w' ∧ Nx ρ h ρ' h' ∧ VR ρ' v v' ∧ HR G K w0 ρ' h' w' := by
  unfold lookA' at hs
  split at hs
  · rename_i s d x hop
    have hx := hev x
    split at hs
    · rename_i _ _ _ t b o' hus hud hxe
      rw [hxe] at hx
      split at hs
      · rename_i cs r hb
        split at hs
        · rename_i hcond
          obtain ⟨hlt, hsome, hne⟩ := hcond
          cases hs
          obtain ⟨sz, hsz⟩ := Option.isSome_iff_exists.1 hsome
          have hsz0 : sz ≠ 0 := fun e => hne (by rw [hsz, e])
          generalize hcv : cev x = cv at hx
          cases hx with
          | ptr _ _ cb dd hρ =>
            obtain ⟨c, e, fz, j1, ⟨j2, j2'⟩, j3, j4⟩ := H.obj b _ cb dd hb hρ
            have hsh := shape_of j1
            have hview : (viewAt cb).run P w = .ok none w := by simp [viewAt, shape, Sem.run, hsh]
            have hcells : (cellsIn cb).run P w = .ok (some c.size) w := by simp [cellsIn, shape, Sem.run, hsh]
            have hnot : ¬ (c.size ≤ o' + dd) := by omega
            have hseen : (Conv.seenAt ⟨cb, o' + dd, none⟩).run P w = .ok ⟨cb, o' + dd, none⟩ w := by simp [Conv.seenAt, hview]
            refine ⟨ρ, .pointer (some ⟨cb, o' + dd, none⟩), w, ?_, Nx.refl _ _, .ptr _ _ cb dd hρ, H⟩
            simp [execOp, hop, convert, run_underlying hus, run_underlying hud, hcv, Conv.unsafePointer, hseen, hcells, run_sizeT hsz, hsz0, hnot]
        · cases hs
      · cases hs
    · rename_i _ _ _ u b hus hud hxe
      rw [hxe] at hx
      split at hs
      · rename_i _ _ _ cs r e sz hb hy hsz
        split at hs
        · rename_i hcond
          obtain ⟨heu, hle⟩ := hcond
          subst heu
          cases hs
          generalize hcv : cev x = cv at hx
          cases hx with
          | ptr _ _ cb dd hρ =>
            obtain ⟨cb', d', c, fz, t1, t2, t3⟩ := H.typ b e true hy
            rw [hρ] at t1
            cases t1
            have hd0 := t3 rfl
            subst hd0
            obtain ⟨c', e', fz', j1, ⟨j2, j2'⟩, j3, j4⟩ := H.obj b _ cb 0 hb hρ
            rw [t2] at j1
            cases j1
            have hsh := shape_of t2
            have hview : (viewAt cb).run P w = .ok none w := by simp [viewAt, shape, Sem.run, hsh]
            have hseen : (Conv.seenAt ⟨cb, 0 + 0, none⟩).run P w = .ok ⟨cb, 0 + 0, none⟩ w := by simp [Conv.seenAt, hview]
            have hlie := liesAt_one (P := P) (e := e) (N := c.size) hsz (by omega)
            have hvar : (variablesAt ⟨cb, 0 + 0, none⟩ e 1).run P w = .ok true w := by simp [variablesAt, shape, program, Sem.run, hsh, hlie]
            refine ⟨ρ, .pointer (some ⟨cb, 0 + 0, none⟩), w, ?_, Nx.refl _ _, .ptr _ _ cb 0 hρ, H⟩
            simp [execOp, hop, convert, run_underlying hus, run_underlying hud, hcv, Conv.unsafePointer, hseen, run_sizeT hsz, hvar]
        · cases hs
      · cases hs
    · rename_i _ _ _ e s hus hud hxe
      rw [hxe] at hx
      split at hs
      · rename_i hbt
        cases hs
        have hue : P.underlying e = some (.int .u8) := by
          unfold byteT at hbt
          split at hbt
          · assumption
          · cases hbt
        generalize hcv : cev x = cv at hx
        cases hx with
        | str ba =>
          let n := ba.size
          let N := grownCap w ba.size 0 e
          have hN : ba.size ≤ N := Nat.le_add_right _ _
          let cells : Array Value := ba.data.map (fun b => Value.int .u8 b.toNat) ++ Array.replicate (N - ba.size) (.int .u8 0)
          have hsz : cells.size = N := by
            have : ba.data.size = ba.size := rfl
            simp [cells]; omega
          let w1 := w.drew.alloc (.cells cells e)
          let w2 := w1.freeze { block := w.heap.size, off := N } 1
          have hrun : (Conv.stringToBytes e ba).run P w = .ok (.slice (some ⟨w.heap.size, 0, none⟩) ba.size N) w2 := by
            have hsh : w1.shape? w.heap.size = some (e, N) := by
              show (match (w.heap.push (.cells cells e))[w.heap.size]? with | some (.cells c elem _) => some (elem, c.size) | _ => none) = _
              rw [Array.getElem?_push_size]
              simp [hsz]
            simp only [Conv.stringToBytes, Sem.run_bind]
            have hch : (choose (.appendCap ba.size 0 e)).run P w = .ok N w.drew := by simp [choose, Sem.run, Question.forced, N, grownCap]
            rw [hch]
            simp only [Result.andThen_ok]
            have hnew : (newRow e cells).run P w.drew = .ok ⟨w.heap.size, 0, none⟩ w1 := by
              simp [newRow, w1]
              rfl
            rw [hnew]
            simp only [Result.andThen_ok]
            have hmark : (markStringish ⟨w.heap.size, 0, none⟩).run P w1 = .ok () w2 := by simp [markStringish, shape, freeze, Sem.run, hsh, w2]
            rw [hmark]
            simp
          have hw2 : ∀ i, w2.heap[i]? = if i = w.heap.size then some (.cells cells e (N, N + 1)) else w.heap[i]? := by
            intro i
            have h1 : w1.heap = w.heap.push (.cells cells e) := rfl
            simp only [w2, World.freeze, Nat.one_ne_zero, if_false, Array.getElem?_modify, h1]
            by_cases hi : i = w.heap.size
            · subst hi; simp
            · rw [if_neg (by omega), if_neg hi, Array.getElem?_push, if_neg hi]
          have hs2 : w2.heap.size = w.heap.size + 1 := by
            have h1 : w1.heap = w.heap.push (.cells cells e) := rfl
            simp only [w2, World.freeze, Nat.one_ne_zero, if_false, Array.size_modify, h1, Array.size_push]
          have hnewb : ρ h.n = none := (H.top h.n (Nat.le_refl _)).2
          have hsub : Sub ρ (ρ.put h.n (w.heap.size, 0) N) := Ren.sub_put hnewb fun c d' hc => by have := H.rng c _ d' hc; dsimp only at this; omega
          have hlen : ba.data.toList.length = ba.size := by rw [Array.length_toList]; rfl
          refine ⟨ρ.put h.n (w.heap.size, 0) N, .slice (some ⟨w.heap.size, 0, none⟩) ba.size N, w2, ?_, Nx.put hsub (Nat.le_succ _), ?_, ?_⟩
          · simp [execOp, hop, convert, run_underlying hus, run_underlying hud, run_underlying hue, hcv, hrun]
          · rw [hlen]
            refine .sl h.n 0 ba.size ba.size 1 w.heap.size 0 N (Ren.put_same _ _ _ _) (Nat.le_refl _) hN (fun h0 => by omega) (fun _ => ?_)
            have := Ren.put_sz ρ h.n (w.heap.size, 0) N
            dsimp only at this
            rw [this]; omega
          · refine H.push _ w.heap.size 0 N ?_ ?_ ?_ (by omega) (fun i hi => by rw [hw2, if_neg (by omega)]) (Nat.le_refl _) (by omega) ?_
            · rfl
            · rfl
            · rfl
            · rw [hw2, if_pos rfl]
              refine ⟨cells, e, _, rfl, ⟨hsz, by rw [List.length_map, hlen]; omega⟩, fun i v hv => ?_, fun h0 => by cases h0⟩
              rw [List.getElem?_map] at hv
              obtain ⟨b, hb, rfl⟩ := Option.map_eq_some_iff.1 hv
              have hlt : i < ba.size := by
                have := (List.getElem?_eq_some_iff.1 hb).1
                omega
              refine ⟨.int .u8 b.toNat, ?_, .int _ _, rfl⟩
              have hlt' : i < (ba.data.map (fun b => Value.int .u8 (b.toNat : Int))).size := by rw [Array.size_map]; exact hlt
              rw [Nat.zero_add]
              show (ba.data.map (fun b => Value.int .u8 (b.toNat : Int)) ++ Array.replicate (N - ba.size) (.int .u8 0))[i]? = _
              rw [Array.getElem?_append_left hlt', Array.getElem?_map]
              rw [Array.getElem?_toList] at hb
              rw [hb]; rfl
      · cases hs
    · cases hs
  · cases hs

/-- An 'append' and its new array's type. -/
theorem tagAp_HR {t : TypeId} {x v : AV} {h' : Heap} {ρ' : Ren} {w' : World} (H : HR G K w0 ρ' h' w') (ha : ApTy P t x v h ρ' w') : HR G K w0 ρ' (tagAp P t x h v h') w' := by
  have mk : ∀ e b o n c k, elemT P t = some e → v = .sl b o n c k → (x = .nils ∨ ∃ b0 o0 n0 c0 k0 q, x = .sl b0 o0 n0 c0 k0 ∧ h.ty b0 = some (e, q)) → HR G K w0 ρ' (h'.tag b (e, false)) w' := fun e b o n c k he hv hx =>
    H.tag (let ⟨cb, d, c, fz, t1, t2⟩ := ha e b o n c k he hv hx; ⟨cb, d, c, fz, t1, t2, fun h => by cases h⟩)
  unfold tagAp
  split
  · rename_i e b o n c k he
    split
    · split
      · exact mk _ _ _ _ _ _ he rfl (.inl rfl)
      · split
        · rename_i b0 o0 n0 c0 k0 _ e0 q hy
          split
          · rename_i h0
            subst h0
            exact mk _ _ _ _ _ _ he rfl (.inr ⟨_, _, _, _, _, q, rfl, hy⟩)
          · exact H
        · exact H
      · exact H
    · exact H
  · exact H
theorem tagAp_n {t : TypeId} {x v : AV} {h' : Heap} : (tagAp P t x h v h').n = h'.n := by
  unfold tagAp
  repeat' split
  all_goals rfl

set_option maxHeartbeats 4000000 in
theorem effA_run {o : Oper} {v : AV} {h' : Heap} (hs : effA P ev o h = some (v, h')) (H : HR G K w0 ρ h w) (hev : ∀ x, VR ρ (ev x) (cev x)) : EffOk P G K w0 ρ h cev o w v h' := by
  unfold effA at hs
  split at hs
  case h_1 t a x hop =>
    obtain ⟨h2, q1, q2⟩ := Option.map_eq_some_iff.1 hs
    cases q2
    exact eff_skip (s := Instr.storeAt t (cev a) (cev x)) (by simp [execOp, hop]) (storeA_run H q1 (hev a) (hev x)) (storeA_n q1)
  case h_2 t m k x hop =>
    obtain ⟨h2, q1, q2⟩ := Option.map_eq_some_iff.1 hs
    cases q2
    exact eff_skip (s := Instr.mapUpdate t (cev m) (cev k) (cev x)) (by simp [execOp, hop]) (updA_run H q1 (hev m) (hev k) (hev x)) (updA_n q1)
  case h_3 t m k x hop =>
    obtain ⟨h2, q1, q2⟩ := Option.map_eq_some_iff.1 hs
    cases q2
    exact eff_skip (s := Instr.mapUpdate t (cev m) (cev k) (cev x)) (by simp [execOp, hop]) (updA_run H q1 (hev m) (hev k) (hev x)) (updA_n q1)
  case h_4 t m k hop =>
    obtain ⟨v', w', r1, r2, r3⟩ := entryA_run H hs (hev m) (hev k)
    exact eff_value (s := Instr.mapEntry t (cev m) (cev k)) (by simp [execOp, hop]) ⟨ρ, v', w', r1, Nx.same (entryA_n hs), r2, r3⟩
  case h_5 t m s x hop =>
    obtain ⟨h2, q1, q2⟩ := Option.map_eq_some_iff.1 hs
    cases q2
    exact eff_skip (s := Instr.entryStore t (cev m) (cev s) (cev x)) (by simp [execOp, hop]) (entryStoreA_run H q1 (hev m) (hev s) (hev x)) (entryStoreA_n q1)
  case h_6 t x hop =>
    exact eff_value (s := Instr.range t (cev x)) (by simp [execOp, hop]) (rangeA_run H hs (hev x))
  case h_7 c hop =>
    split at hs
    case h_1 t u ts x y xs hcal hty hargs =>
      obtain ⟨x', y', xs', ha, hx, hy⟩ := args2 hev hargs
      have hty' : c.argTypes = (t :: u :: ts).toArray := by rw [← hty]
      split at hs
      · cases hs
      · cases hs
      · rename_i d hni hd
        obtain ⟨⟨v1, h1⟩, hs1, hs2⟩ := Option.map_eq_some_iff.1 hs
        cases hs2
        obtain ⟨ρ', v', w', r1, r2, r3, r4, r5⟩ := appendA_run (ty := o.type) (ts := ts) (xs := xs') H hs1 hd (fun k hk => hni k (by rw [hk])) hx hy
        exact eff_value (s := Builtin.append_ c.argTypes o.type (c.args.map cev)) (by simp [execOp, hop, resolve, hcal, invoke, builtin]) (by rw [hty', ha]; exact ⟨ρ', v', w', r1, ⟨r2.sub, by rw [tagAp_n]; exact r2.n, r2.old⟩, r3, tagAp_HR r4 r5⟩)
    case h_2 =>
      rename_i x hcal hargs
      obtain ⟨v1, q1, q2⟩ := Option.map_eq_some_iff.1 hs
      cases q2
      have hr := args_rel hev c.args.toList
      rw [hargs] at hr
      generalize hca : c.args.toList.map cev = cargs at hr
      cases hr with
      | cons _ x' _ xs' hx hxs =>
        cases hxs
        have ha : c.args.map cev = #[x'] := by apply Array.ext'; simpa using hca
        obtain ⟨v', r1, r2⟩ := sld_run (P := P) (ats := c.argTypes) (ty := o.type) q1 hx
        exact eff_value (s := Builtin.unsafeSliceData_ c.argTypes o.type (c.args.map cev)) (by simp [execOp, hop, resolve, hcal, invoke, builtin]) (by rw [ha]; exact ⟨ρ, v', w, r1 w, Nx.refl _ _, r2, H⟩)
    case h_3 t ts x y hcal hty hargs =>
      have hr := args_rel hev c.args.toList
      rw [hargs] at hr
      generalize hca : c.args.toList.map cev = cargs at hr
      cases hr with
      | cons _ x' _ xs' hx hxs =>
        cases hxs with
        | cons _ y' _ ys' hy hys =>
          cases hys
          have ha : c.args.map cev = #[x', y'] := by apply Array.ext'; simpa using hca
          have hty' : c.argTypes = (t :: ts).toArray := by rw [← hty]
          obtain ⟨v', w', r1, r2, r3, r4⟩ := ustr_run (P := P) (ts := ts) (ty := o.type) H hs hx hy
          exact eff_value (s := Builtin.unsafeString_ c.argTypes o.type (c.args.map cev)) (by simp [execOp, hop, resolve, hcal, invoke, builtin]) (by rw [ha, hty']; exact ⟨ρ, v', w', r1, Nx.same r4, r2, r3⟩)
    case h_4 t ts x y xs hcal hty hargs =>
      obtain ⟨x', y', xs', ha, hx, hy⟩ := args2 hev hargs
      have hty' : c.argTypes = (t :: ts).toArray := by rw [← hty]
      obtain ⟨v', w', r1, r2, r3⟩ := copyA_run (ty := o.type) (ts := ts) (xs := xs') (u := t) H hs hx hy
      exact eff_value (s := Builtin.copy_ c.argTypes o.type (c.args.map cev)) (by simp [execOp, hop, resolve, hcal, invoke, builtin]) (by rw [hty', ha]; exact ⟨ρ, v', w', r1, Nx.same (copyA_n hs), r2, r3⟩)
    case h_5 t ts x xs hcal hty hargs =>
      obtain ⟨x', xs', ha, hx⟩ := args1 hev hargs
      have hty' : c.argTypes = (t :: ts).toArray := by rw [← hty]
      obtain ⟨v', w', r1, r2, r3⟩ := clearA_run (ty := o.type) (ts := ts) (xs := xs') H hs hx
      exact eff_value (s := Builtin.clear_ c.argTypes o.type (c.args.map cev)) (by simp [execOp, hop, resolve, hcal, invoke, builtin]) (by rw [hty', ha]; exact ⟨ρ, v', w', r1, Nx.same (clearA_n hs), r2, r3⟩)
    case h_6 t ts x y xs hcal hty hargs =>
      obtain ⟨x', y', xs', ha, hx, hy⟩ := args2 hev hargs
      have hty' : c.argTypes = (t :: ts).toArray := by rw [← hty]
      obtain ⟨v', w', r1, r2, r3⟩ := delA_run (ty := o.type) (ts := ts) (xs := xs') H hs hx hy
      exact eff_value (s := Builtin.delete_ c.argTypes o.type (c.args.map cev)) (by simp [execOp, hop, resolve, hcal, invoke, builtin]) (by rw [hty', ha]; exact ⟨ρ, v', w', r1, Nx.same (delA_n hs), r2, r3⟩)
    · cases hs
  · cases hs

end
end Go.Am
