/- The abstract machine, part 32: loops with a ghost, laid out plainly; vectors of one-cell elements. -/
import Derived.Test.YtpanggiejiommaaGreatAm31
namespace Go.Am
set_option autoImplicit false
set_option linter.all false
open Go

/-- The temporaries, one by one. -/
def lay (ts : List AV) : Nat → Nat → List AV
  | 0, _ => []
  | n + 1, i => gt ts i :: lay ts n (i + 1)
theorem lay_drop (ts : List AV) : ∀ n i, ts.length = i + n → lay ts n i = ts.drop i
  | 0, i, h => by rw [List.drop_eq_nil_of_le (by omega)]; rfl
  | n + 1, i, h => by
    have hi : i < ts.length := by omega
    rw [lay, lay_drop ts n (i + 1) (by omega), List.drop_eq_getElem_cons hi]
    simp [gt, List.getElem?_eq_getElem hi]
theorem lay_eq {ts : List AV} {n : Nat} (h : ts.length = n) : (⟨ts, [], none⟩ : AAct) = ⟨lay ts n 0, [], none⟩ := by
  rw [lay_drop ts n 0 (by omega)]; rfl
theorem lay_zero (ts : List AV) (i : Nat) : lay ts 0 i = [] := _root_.id rfl
theorem lay_succ (ts : List AV) (n i : Nat) : lay ts (n + 1) i = gt ts i :: lay ts n (i + 1) := _root_.id rfl

section
variable {P : Program}
/-- The next round's state. -/
def Next {σ : Type} (m : Nat) (I : σ → List AV → Heap → Prop) (μ : σ → Nat) (s : σ) (_ : Fz (m, I, μ, s)) (a : AAct) (h : Heap) : Prop := ∃ s' ts, a = ⟨ts, [], none⟩ ∧ ts.length = m ∧ I s' ts h ∧ μ s' < μ s
theorem Next.intro {σ : Type} {m : Nat} {I : σ → List AV → Heap → Prop} {μ : σ → Nat} {s : σ} {z : Fz (m, I, μ, s)} {ts : List AV} {h : Heap} (s' : σ) (hl : ts.length = m) (hI : I s' ts h) (hμ : μ s' < μ s) : Next m I μ s z ⟨ts, [], none⟩ h := ⟨s', ts, rfl, hl, hI, hμ⟩
/-- A loop, with a ghost that a measure lessens. -/
theorem wcM.loopN (hm : P.follows .mixedOrders = true) {σ : Type} {c : CC} {k : AExit → AAct → Heap → Prop} {z : Fz k} (m : Nat) (μ : σ → Nat) (I : σ → List AV → Heap → Prop) (s : σ) {ts : List AV} {h : Heap} (hl : ts.length = m) (hi : I s ts h)
    (hb : ∀ s ts h, Low h → I s ts h → RC P P.globals.size c (fun e a' h' => match e with | .normal => Next m I μ s ⟨⟩ a' h' | e => k e a' h') ⟨⟩ ⟨lay ts m 0, [], none⟩ h) : wcM P (.loop c) ⟨ts, [], none⟩ h k z := by
  refine wcM.loop μ (fun s a h => ∃ ts, a = ⟨ts, [], none⟩ ∧ ts.length = m ∧ I s ts h) (fun s a h hlow hs => ?_) (s := s) ⟨ts, rfl, hl, hi⟩
  obtain ⟨ts, rfl, hlen, hI⟩ := hs
  have := hb s ts h hlow hI
  rw [← lay_eq hlen] at this
  refine AWc.mono (AWc.runR hm this) ?_
  rintro e a' h' - -
  cases e with
  | normal => rintro ⟨s', ts', rfl, h1, h2, h3⟩; exact ⟨s', ⟨ts', rfl, h1, h2⟩, h3⟩
  | _ => exact fun h => h
end

section
variable {P : Program} {G : Nat} {kd : AV → Heap → List Foot → Prop} {i m : Nat} {ts : List AV} {h : Heap} {fs : List Foot}
/-- The other answer, if there was one. -/
def flipA (w : Bool) (v : AV) : AV := match v with | .bool _ => .bool (!w) | v => v
theorem flipA_bool (w b : Bool) : flipA w (.bool b) = .bool (!w) := _root_.id rfl
theorem flipA_un (w : Bool) : flipA w .un = .un := _root_.id rfl
theorem RO_guardN {ka : AAct → Heap → Prop} (d : Option Tmp) (o : CO) (t : Nat) (w : Bool) (r : List COp) (m : Fz ((⟨d, o, some (t, w)⟩ : COp) :: r, ka)) (ts : List AV) (f : List Nat) (rr : Option Nat) : RO P G (⟨d, o, some (t, w)⟩ :: r) ka m ⟨ts, f, rr⟩ h =
    gdM (gt ts t) w (R1 P G o (fun v h => RO P G r ka ⟨⟩ (AAct.put ⟨ts.set t (.bool w), f, rr⟩ d v) h) ⟨⟩ (ts.set t (.bool w)) h) (RO P G r ka ⟨⟩ (AAct.put ⟨ts.set t (flipA w (gt ts t)), f, rr⟩ d .un) h) ⟨⟩ ⟨⟩ := RO_guard d o t w r m ts f rr
theorem RD_guardN {ka : AAct → Heap → Prop} (i m : Nat) (d : Option Tmp) (o : CO) (t : Nat) (w : Bool) (r : List (Nat × Nat × COp)) (mm : Fz ((i, m, (⟨d, o, some (t, w)⟩ : COp)) :: r, ka)) (ts : List AV) (f : List Nat) (rr : Option Nat) : RD P G ((i, m, ⟨d, o, some (t, w)⟩) :: r) ka mm fs ⟨ts, f, rr⟩ h =
    gdM (gt ts t) w (D1 P G o (fun v h fs => RD P G r ka ⟨⟩ fs (AAct.put ⟨ts.set t (.bool w), f, rr⟩ d v) h) ⟨⟩ i m (ts.set t (.bool w)) h fs) (RD P G r ka ⟨⟩ fs (AAct.put ⟨ts.set t (flipA w (gt ts t)), f, rr⟩ d .un) h) ⟨⟩ ⟨⟩ := RD_guard i m d o t w r mm ts f rr
theorem bit_in {b i : Nat} (h : b / 2 ^ i % 2 = 1) : b.testBit i = true := by rw [Nat.testBit_eq_decide_div_mod_eq]; simp [h]
theorem bit_out {b i : Nat} (h : b / 2 ^ i % 2 = 0) : b.testBit i = false := by rw [Nat.testBit_eq_decide_div_mod_eq]; simp [h]
theorem KF_inN (b : Nat) (h h' : Heap) (r : Prop) (m : Fz r) (i x : Nat) (f : AObj → Option AV) (v : AV) (hb : b / 2 ^ i % 2 = 1) : KF b r m h h' (.rd i x f v :: fs) = KF b r ⟨⟩ h h' fs := KF_in b h h' r m i x f v (bit_in hb)
theorem KF_outN (b : Nat) (h h' : Heap) (r : Prop) (m : Fz r) (i x : Nat) (f : AObj → Option AV) (v : AV) (hb : b / 2 ^ i % 2 = 0) : KF b r m h h' (.rd i x f v :: fs) = mustM ((h'.get x).bind f = some v) (KF b r ⟨⟩ h h' fs) ⟨⟩ := KF_out b h h' r m i x f v (bit_out hb)
theorem KF_ainN (b : Nat) (h h' : Heap) (r : Prop) (m : Fz r) (i x : Nat) (hb : b / 2 ^ i % 2 = 1) : KF b r m h h' (.al i x :: fs) = KF b r ⟨⟩ h h' fs := KF_ain b h h' r m i x (bit_in hb)
theorem KF_aoutN (b : Nat) (h h' : Heap) (r : Prop) (m : Fz r) (i x : Nat) (hb : b / 2 ^ i % 2 = 0) : KF b r m h h' (.al i x :: fs) = mustM (∃ u v p, h.get x = some (.cells u p) ∧ h'.get x = some (.cells v p) ∧ u = v) (KF b r ⟨⟩ h h' fs) ⟨⟩ := KF_aout b h h' r m i x (bit_out hb)
theorem D1_mv (x) (mm : Fz ((CO.mv x : CO), kd)) : D1 P G (.mv x) kd mm i m ts h fs = R1 P G (.mv x) (fun v h => kd v h fs) ⟨⟩ ts h := D1_pure i m mm rfl
theorem D1_pick (c x y) (mm : Fz ((CO.pick c x y : CO), kd)) : D1 P G (.pick c x y) kd mm i m ts h fs = R1 P G (.pick c x y) (fun v h => kd v h fs) ⟨⟩ ts h := D1_pure i m mm rfl
theorem D1_build (z pl ps) (mm : Fz ((CO.build z pl ps : CO), kd)) : D1 P G (.build z pl ps) kd mm i m ts h fs = R1 P G (.build z pl ps) (fun v h => kd v h fs) ⟨⟩ ts h := D1_pure i m mm rfl
theorem D1_nilc (x) (mm : Fz ((CO.nilc x : CO), kd)) : D1 P G (.nilc x) kd mm i m ts h fs = R1 P G (.nilc x) (fun v h => kd v h fs) ⟨⟩ ts h := D1_pure i m mm rfl
theorem D1_ib (op x y) (mm : Fz ((CO.ib op x y : CO), kd)) : D1 P G (.ib op x y) kd mm i m ts h fs = R1 P G (.ib op x y) (fun v h => kd v h fs) ⟨⟩ ts h := D1_pure i m mm rfl
theorem D1_sh (op x y) (mm : Fz ((CO.sh op x y : CO), kd)) : D1 P G (.sh op x y) kd mm i m ts h fs = R1 P G (.sh op x y) (fun v h => kd v h fs) ⟨⟩ ts h := D1_pure i m mm rfl
theorem D1_sb (op x y) (mm : Fz ((CO.sb op x y : CO), kd)) : D1 P G (.sb op x y) kd mm i m ts h fs = R1 P G (.sb op x y) (fun v h => kd v h fs) ⟨⟩ ts h := D1_pure i m mm rfl
theorem D1_bb (op x y) (mm : Fz ((CO.bb op x y : CO), kd)) : D1 P G (.bb op x y) kd mm i m ts h fs = R1 P G (.bb op x y) (fun v h => kd v h fs) ⟨⟩ ts h := D1_pure i m mm rfl
theorem D1_un (op x) (mm : Fz ((CO.un op x : CO), kd)) : D1 P G (.un op x) kd mm i m ts h fs = R1 P G (.un op x) (fun v h => kd v h fs) ⟨⟩ ts h := D1_pure i m mm rfl
theorem D1_cvi (j x) (mm : Fz ((CO.cvi j x : CO), kd)) : D1 P G (.cvi j x) kd mm i m ts h fs = R1 P G (.cvi j x) (fun v h => kd v h fs) ⟨⟩ ts h := D1_pure i m mm rfl
theorem D1_mkif (t x) (mm : Fz ((CO.mkif t x : CO), kd)) : D1 P G (.mkif t x) kd mm i m ts h fs = R1 P G (.mkif t x) (fun v h => kd v h fs) ⟨⟩ ts h := D1_pure i m mm rfl
theorem D1_mkfn (f x y) (mm : Fz ((CO.mkfn f x y : CO), kd)) : D1 P G (.mkfn f x y) kd mm i m ts h fs = R1 P G (.mkfn f x y) (fun v h => kd v h fs) ⟨⟩ ts h := D1_pure i m mm rfl
theorem D1_fa (o x) (mm : Fz ((CO.fa o x : CO), kd)) : D1 P G (.fa o x) kd mm i m ts h fs = R1 P G (.fa o x) (fun v h => kd v h fs) ⟨⟩ ts h := D1_pure i m mm rfl
theorem D1_fld (g s o x) (mm : Fz ((CO.fld g s o x : CO), kd)) : D1 P G (.fld g s o x) kd mm i m ts h fs = R1 P G (.fld g s o x) (fun v h => kd v h fs) ⟨⟩ ts h := D1_pure i m mm rfl
theorem D1_ia (s x y) (mm : Fz ((CO.ia s x y : CO), kd)) : D1 P G (.ia s x y) kd mm i m ts h fs = R1 P G (.ia s x y) (fun v h => kd v h fs) ⟨⟩ ts h := D1_pure i m mm rfl
theorem D1_iaa (n s x y) (mm : Fz ((CO.iaa n s x y : CO), kd)) : D1 P G (.iaa n s x y) kd mm i m ts h fs = R1 P G (.iaa n s x y) (fun v h => kd v h fs) ⟨⟩ ts h := D1_pure i m mm rfl
theorem D1_ixs (x y) (mm : Fz ((CO.ixs x y : CO), kd)) : D1 P G (.ixs x y) kd mm i m ts h fs = R1 P G (.ixs x y) (fun v h => kd v h fs) ⟨⟩ ts h := D1_pure i m mm rfl
theorem D1_lenS (x) (mm : Fz ((CO.lenS x : CO), kd)) : D1 P G (.lenS x) kd mm i m ts h fs = R1 P G (.lenS x) (fun v h => kd v h fs) ⟨⟩ ts h := D1_pure i m mm rfl
theorem D1_lenT (x) (mm : Fz ((CO.lenT x : CO), kd)) : D1 P G (.lenT x) kd mm i m ts h fs = R1 P G (.lenT x) (fun v h => kd v h fs) ⟨⟩ ts h := D1_pure i m mm rfl
theorem D1_ext (x n) (mm : Fz ((CO.ext x n : CO), kd)) : D1 P G (.ext x n) kd mm i m ts h fs = R1 P G (.ext x n) (fun v h => kd v h fs) ⟨⟩ ts h := D1_pure i m mm rfl
end

section
variable {h h' : Heap} {b o i n c k : Nat} {l : List AV} {v x y : AV}
theorem rd_get {s : Nat} {w : Bool} (hg : h.get b = some (.cells l w)) : rd h false s b o = l[o]? := by unfold rd; rw [hg]; rfl
theorem idx_sl {j : IntKind} {i : Int} (h0 : 0 ≤ i) (h1 : i < n) : idxA 1 (.sl b 0 n c k) (.int j i) = some (.ptr b i.toNat) := by simp [idxA, h0, h1]
theorem setL_one : setL [y] 0 [x] = [x] := _root_.id rfl
theorem setL_set (ho : o < l.length) : setL l o [x] = l.set o x := by
  rw [setL, List.set_eq_take_append_cons_drop, if_pos ho]; simp
end
end Go.Am
