/- A walk by plain functions, part 7: that what a region of operations does is what a plain function says, for any program whose types are at hand. -/
import Derived.Test.YtoildogibnampaaGreatBaseF

/- Plain functions, one for each of the program. -/
namespace Net
open Go
set_option linter.unusedVariables false

/-- laws.szSatS -/
noncomputable def L_szSatS (a : List Sat) (left : Int) : Option Int :=
  cond (decide ((W (left - (a.length : Int))) < 0)) (
    some (-1)) (
    some (W (left - (a.length : Int))))

/-- laws.szSiteS -/
noncomputable def L_szSiteS (a : List Site) (left : Int) : Option Int :=
  cond (decide ((W (left - (a.length : Int))) < 0)) (
    some (-1)) (
    some (W (left - (a.length : Int))))

/-- laws.szZoneS -/
noncomputable def L_szZoneS (a : List Zone) (left : Int) : Option Int :=
  cond (decide ((W (left - (a.length : Int))) < 0)) (
    some (-1)) (
    some (W (left - (a.length : Int))))

/-- laws.szSky -/
noncomputable def L_szSky (a : Sky) (left : Int) : Option Int :=
  Option.bind (L_szSatS a.Sats left) fun r1 =>
  cond (decide (r1 < 0)) (
    some (-1)) (
    Option.bind (L_szSiteS a.Sites r1) fun r2 =>
    cond (decide (r2 < 0)) (
      some (-1)) (
      Option.bind (L_szZoneS a.Zones r2) fun r3 =>
      cond (decide (r3 < 0)) (
        some (-1)) (
        some r3)))

/-- laws.szLinkS -/
noncomputable def L_szLinkS (a : List Link) (left : Int) : Option Int :=
  cond (decide ((W (left - (a.length : Int))) < 0)) (
    some (-1)) (
    some (W (left - (a.length : Int))))

/-- laws.szIntS -/
noncomputable def L_szIntS (a : List Int) (left : Int) : Option Int :=
  cond (decide ((W (left - (a.length : Int))) < 0)) (
    some (-1)) (
    some (W (left - (a.length : Int))))

/-- laws.szTable -/
noncomputable def L_szTable (a : Table) (left : Int) : Option Int :=
  Option.bind (L_szIntS a.Dist left) fun r1 =>
  cond (decide (r1 < 0)) (
    some (-1)) (
    Option.bind (L_szIntS a.Next r1) fun r2 =>
    cond (decide (r2 < 0)) (
      some (-1)) (
      some r2))

/-- laws.szTableS -/
noncomputable def L_szTableS (a : List Table) (left : Int) : Option Int :=
  cond (decide ((W (left - (a.length : Int))) < 0)) (
    some (-1)) (
    Option.bind (iter (S := Int × Int × Unit) (X := (Int × Unit) ⊕ Int) (fun s1 =>
      cond (decide (s1.2.1 < (a.length : Int))) (
        Option.bind (rdI a s1.2.1) fun y2 =>
        Option.bind (L_szTable y2 s1.1) fun r3 =>
        cond (decide (r3 < 0)) (
          some (.inr (.inr (-1)))) (
          some (.inl (r3, W (s1.2.1 + 1), ())))) (
        some (.inr (.inl (s1.1, ()))))) (W (left - (a.length : Int)), 0, ())) (sumE (fun e4 =>
    some e4.1) some))

/-- laws.szPiece -/
noncomputable def L_szPiece (a : Piece) (left : Int) : Option Int :=
  Option.bind (L_szLinkS a.Links left) fun r1 =>
  cond (decide (r1 < 0)) (
    some (-1)) (
    Option.bind (L_szTableS a.Tables r1) fun r2 =>
    cond (decide (r2 < 0)) (
      some (-1)) (
      some r2))

/-- laws.szPieceS -/
noncomputable def L_szPieceS (a : List Piece) (left : Int) : Option Int :=
  cond (decide ((W (left - (a.length : Int))) < 0)) (
    some (-1)) (
    Option.bind (iter (S := Int × Int × Unit) (X := (Int × Unit) ⊕ Int) (fun s1 =>
      cond (decide (s1.2.1 < (a.length : Int))) (
        Option.bind (rdI a s1.2.1) fun y2 =>
        Option.bind (L_szPiece y2 s1.1) fun r3 =>
        cond (decide (r3 < 0)) (
          some (.inr (.inr (-1)))) (
          some (.inl (r3, W (s1.2.1 + 1), ())))) (
        some (.inr (.inl (s1.1, ()))))) (W (left - (a.length : Int)), 0, ())) (sumE (fun e4 =>
    some e4.1) some))

/-- laws.szProgram -/
noncomputable def L_szProgram (a : Prog) (left : Int) : Option Int :=
  Option.bind (L_szPieceS a.Pieces left) fun r1 =>
  cond (decide (r1 < 0)) (
    some (-1)) (
    some r1)

/-- laws.szLaw -/
noncomputable def L_szLaw (a : Law) (left : Int) : Option Int :=
  Option.bind (L_szIntS a.Allowed left) fun r1 =>
  cond (decide (r1 < 0)) (
    some (-1)) (
    some r1)

/-- laws.szBatteryS -/
noncomputable def L_szBatteryS (a : List Battery) (left : Int) : Option Int :=
  cond (decide ((W (left - (a.length : Int))) < 0)) (
    some (-1)) (
    some (W (left - (a.length : Int))))

/-- laws.szPacketS -/
noncomputable def L_szPacketS (a : List Packet) (left : Int) : Option Int :=
  cond (decide ((W (left - (a.length : Int))) < 0)) (
    some (-1)) (
    some (W (left - (a.length : Int))))

/-- laws.szQueue -/
noncomputable def L_szQueue (a : Queue) (left : Int) : Option Int :=
  Option.bind (L_szPacketS a.Items left) fun r1 =>
  cond (decide (r1 < 0)) (
    some (-1)) (
    some r1)

/-- laws.szQueueS -/
noncomputable def L_szQueueS (a : List Queue) (left : Int) : Option Int :=
  cond (decide ((W (left - (a.length : Int))) < 0)) (
    some (-1)) (
    Option.bind (iter (S := Int × Int × Unit) (X := (Int × Unit) ⊕ Int) (fun s1 =>
      cond (decide (s1.2.1 < (a.length : Int))) (
        Option.bind (rdI a s1.2.1) fun y2 =>
        Option.bind (L_szQueue y2 s1.1) fun r3 =>
        cond (decide (r3 < 0)) (
          some (.inr (.inr (-1)))) (
          some (.inl (r3, W (s1.2.1 + 1), ())))) (
        some (.inr (.inl (s1.1, ()))))) (W (left - (a.length : Int)), 0, ())) (sumE (fun e4 =>
    some e4.1) some))

/-- laws.szFlowS -/
noncomputable def L_szFlowS (a : List Flow) (left : Int) : Option Int :=
  cond (decide ((W (left - (a.length : Int))) < 0)) (
    some (-1)) (
    some (W (left - (a.length : Int))))

/-- laws.szStream -/
noncomputable def L_szStream (a : Stream) (left : Int) : Option Int :=
  Option.bind (L_szIntS a.Kept left) fun r1 =>
  cond (decide (r1 < 0)) (
    some (-1)) (
    some r1)

/-- laws.szStreamS -/
noncomputable def L_szStreamS (a : List Stream) (left : Int) : Option Int :=
  cond (decide ((W (left - (a.length : Int))) < 0)) (
    some (-1)) (
    Option.bind (iter (S := Int × Int × Unit) (X := (Int × Unit) ⊕ Int) (fun s1 =>
      cond (decide (s1.2.1 < (a.length : Int))) (
        Option.bind (rdI a s1.2.1) fun y2 =>
        Option.bind (L_szStream y2 s1.1) fun r3 =>
        cond (decide (r3 < 0)) (
          some (.inr (.inr (-1)))) (
          some (.inl (r3, W (s1.2.1 + 1), ())))) (
        some (.inr (.inl (s1.1, ()))))) (W (left - (a.length : Int)), 0, ())) (sumE (fun e4 =>
    some e4.1) some))

/-- laws.szFaultS -/
noncomputable def L_szFaultS (a : List Fault) (left : Int) : Option Int :=
  cond (decide ((W (left - (a.length : Int))) < 0)) (
    some (-1)) (
    some (W (left - (a.length : Int))))

/-- laws.szSentS -/
noncomputable def L_szSentS (a : List Sent) (left : Int) : Option Int :=
  cond (decide ((W (left - (a.length : Int))) < 0)) (
    some (-1)) (
    some (W (left - (a.length : Int))))

/-- laws.szWorld -/
noncomputable def L_szWorld (x0_ : Wd) (x1_ : Int) : Option Int :=
  Option.bind (L_szSky x0_.Sky x1_) fun r1 =>
  cond (decide (r1 < 0)) (
    some (-1)) (
    Option.bind (L_szProgram x0_.Program r1) fun r2 =>
    cond (decide (r2 < 0)) (
      some (-1)) (
      Option.bind (L_szLaw x0_.Law r2) fun r3 =>
      cond (decide (r3 < 0)) (
        some (-1)) (
        Option.bind (L_szIntS x0_.Offsets r3) fun r4 =>
        cond (decide (r4 < 0)) (
          some (-1)) (
          Option.bind (L_szBatteryS x0_.Batteries r4) fun r5 =>
          cond (decide (r5 < 0)) (
            some (-1)) (
            Option.bind (L_szQueueS x0_.Queues r5) fun r6 =>
            cond (decide (r6 < 0)) (
              some (-1)) (
              Option.bind (L_szFlowS x0_.Flows r6) fun r7 =>
              cond (decide (r7 < 0)) (
                some (-1)) (
                Option.bind (L_szIntS x0_.Counts r7) fun r8 =>
                cond (decide (r8 < 0)) (
                  some (-1)) (
                  Option.bind (L_szStreamS x0_.Streams r8) fun r9 =>
                  cond (decide (r9 < 0)) (
                    some (-1)) (
                    Option.bind (L_szFaultS x0_.Faults r9) fun r10 =>
                    cond (decide (r10 < 0)) (
                      some (-1)) (
                      Option.bind (L_szPacketS x0_.Done r10) fun r11 =>
                      cond (decide (r11 < 0)) (
                        some (-1)) (
                        Option.bind (L_szSentS x0_.Log r11) fun r12 =>
                        cond (decide (r12 < 0)) (
                          some (-1)) (
                          some r12))))))))))))

/-- spec.l33Sky -/
noncomputable def S_l33Sky (s : Sky) : Option Sky :=
  Option.bind (appE ([] : List Sat) s.Sats) fun xs1 =>
  Option.bind (appE ([] : List Site) s.Sites) fun xs2 =>
  Option.bind (appE ([] : List Zone) s.Zones) fun xs3 =>
  some ({ s with Sats := xs1, Sites := xs2, Zones := xs3 })

/-- spec.l15Copy -/
noncomputable def S_l15Copy (t : Table) : Option Table :=
  Option.bind (appE ([] : List Int) t.Dist) fun xs1 =>
  Option.bind (appE ([] : List Int) t.Next) fun xs2 =>
  some (⟨t.Dst, xs1, xs2⟩ : Table)

/-- spec.l17Copy -/
noncomputable def S_l17Copy (x0_ : Prog) : Option Prog :=
  Option.bind (iter (S := Prog × Int × Unit) (X := (Prog × Unit) ⊕ Prog) (fun s1 =>
    cond (decide (s1.2.1 < (x0_.Pieces.length : Int))) (
      Option.bind (rdI x0_.Pieces s1.2.1) fun y2 =>
      Option.bind (rdI x0_.Pieces s1.2.1) fun y3 =>
      Option.bind (appE ([] : List Link) y3.Links) fun xs4 =>
      Option.bind (iter (S := Piece × Int × Unit) (X := (Piece × Unit) ⊕ ((Prog × Int × Unit) ⊕ ((Prog × Unit) ⊕ Prog))) (fun s5 =>
        Option.bind (rdI x0_.Pieces s1.2.1) fun y6 =>
        cond (decide (s5.2.1 < (y6.Tables.length : Int))) (
          Option.bind (rdI x0_.Pieces s1.2.1) fun y7 =>
          Option.bind (rdI y7.Tables s5.2.1) fun y8 =>
          Option.bind (S_l15Copy y8) fun r9 =>
          Option.bind (appE s5.1.Tables ([r9])) fun xs10 =>
          some (.inl ({ s5.1 with Tables := xs10 }, W (s5.2.1 + 1), ()))) (
          some (.inr (.inl (s5.1, ()))))) ((⟨y2.Span, xs4, ([] : List Table)⟩ : Piece), 0, ())) (sumE (fun e11 =>
      Option.bind (appE s1.1.Pieces ([e11.1])) fun xs12 =>
      some (.inl ({ s1.1 with Pieces := xs12 }, W (s1.2.1 + 1), ()))) some)) (
      some (.inr (.inl (s1.1, ()))))) ({ x0_ with Pieces := ([] : List Piece) }, 0, ())) (sumE (fun e13 =>
  some e13.1) some)

/-- spec.l24Copy -/
noncomputable def S_l24Copy (q : Queue) : Option Queue :=
  Option.bind (appE ([] : List Packet) q.Items) fun xs1 =>
  some (⟨xs1⟩ : Queue)

/-- spec.l25Copy -/
noncomputable def S_l25Copy (s : Stream) : Option Stream :=
  Option.bind (appE ([] : List Int) s.Kept) fun xs1 =>
  some ({ s with Kept := xs1 })

/-- spec.l33Copy -/
noncomputable def S_l33Copy (x0_ : Wd) : Option Wd :=
  Option.bind (S_l33Sky x0_.Sky) fun r1 =>
  Option.bind (S_l17Copy x0_.Program) fun r2 =>
  Option.bind (appE ([] : List Int) x0_.Law.Allowed) fun xs3 =>
  Option.bind (appE ([] : List Int) x0_.Offsets) fun xs4 =>
  Option.bind (appE ([] : List Battery) x0_.Batteries) fun xs5 =>
  Option.bind (iter (S := Wd × Int × Unit) (X := (Wd × Unit) ⊕ Wd) (fun s6 =>
    cond (decide (s6.2.1 < (x0_.Queues.length : Int))) (
      Option.bind (rdI x0_.Queues s6.2.1) fun y7 =>
      Option.bind (S_l24Copy y7) fun r8 =>
      Option.bind (appE s6.1.Queues ([r8])) fun xs9 =>
      some (.inl ({ s6.1 with Queues := xs9 }, W (s6.2.1 + 1), ()))) (
      some (.inr (.inl (s6.1, ()))))) ((⟨r1, r2, (⟨xs3⟩ : Law), xs4, xs5, ([] : List Queue), ([] : List Flow), ([] : List Int), ([] : List Stream), ([] : List Fault), x0_.Now, x0_.End, ([] : List Packet), ([] : List Sent)⟩ : Wd), 0, ())) (sumE (fun e10 =>
  Option.bind (appE ([] : List Flow) x0_.Flows) fun xs11 =>
  Option.bind (appE ([] : List Int) x0_.Counts) fun xs12 =>
  Option.bind (iter (S := Wd × Int × Unit) (X := (Wd × Unit) ⊕ Wd) (fun s13 =>
    cond (decide (s13.2.1 < (x0_.Streams.length : Int))) (
      Option.bind (rdI x0_.Streams s13.2.1) fun y14 =>
      Option.bind (S_l25Copy y14) fun r15 =>
      Option.bind (appE s13.1.Streams ([r15])) fun xs16 =>
      some (.inl ({ s13.1 with Streams := xs16 }, W (s13.2.1 + 1), ()))) (
      some (.inr (.inl (s13.1, ()))))) ({ e10.1 with Flows := xs11, Counts := xs12 }, 0, ())) (sumE (fun e17 =>
  Option.bind (appE ([] : List Fault) x0_.Faults) fun xs18 =>
  Option.bind (appE ([] : List Packet) x0_.Done) fun xs19 =>
  Option.bind (appE ([] : List Sent) x0_.Log) fun xs20 =>
  some ({ e17.1 with Faults := xs18, Done := xs19, Log := xs20 })) some)) some)

/-- spec.IsSpan -/
noncomputable def S_IsSpan (s : Span) : Option Bool :=
  cond (decide (s.From ≥ 0)) (
    cond (decide (s.To ≤ 1000)) (
      some (decide (s.From < s.To))) (
      some false)) (
    some false)

/-- spec.IsFault -/
noncomputable def S_IsFault (x : Fault) (nodes : Int) : Option Bool :=
  cond (decide (x.A ≥ 0)) (
    cond (decide (x.A < nodes)) (
      cond (decide (x.B ≥ (-1))) (
        cond (decide (x.B < nodes)) (
          cond (!(x.A == x.B)) (
            Option.bind (S_IsSpan (⟨x.From, x.To⟩ : Span)) fun r1 =>
            some r1) (
            some false)) (
          some false)) (
        some false)) (
      some false)) (
    some false)

/-- spec.StepFault -/
noncomputable def S_StepFault (w : Wd) (x : Fault) : Option (Wd × Bool) :=
  Option.bind (S_l33Copy w) fun r1 =>
  Option.bind (S_IsFault x w.Program.Nodes) fun r2 =>
  cond (!r2) (
    some (r1, false)) (
    cond (decide (x.From < w.Now)) (
      some (r1, false)) (
      cond (decide ((w.Faults.length : Int) ≥ 12)) (
        some (r1, false)) (
        Option.bind (appE r1.Faults ([x])) fun xs3 =>
        some ({ r1 with Faults := xs3 }, true))))

/-- laws.toSat -/
noncomputable def L_toSat (a : Sat) : Option Sat :=
  some a

/-- laws.toSatS -/
noncomputable def L_toSatS (a : List Sat) : Option (List Sat) :=
  Option.bind (mkE (⟨0, 0, 0, 0⟩ : Sat) (a.length : Int)) fun m1 =>
  Option.bind (iter (S := List Sat × Int × Unit) (X := (List Sat × Unit) ⊕ (List Sat)) (fun s2 =>
    cond (decide (s2.2.1 < (a.length : Int))) (
      Option.bind (rdI a s2.2.1) fun y3 =>
      Option.bind (L_toSat y3) fun r4 =>
      Option.bind (rdI s2.1 s2.2.1) fun y5 =>
      some (.inl (List.set s2.1 (s2.2.1).toNat r4, W (s2.2.1 + 1), ()))) (
      some (.inr (.inl (s2.1, ()))))) (m1, 0, ())) (sumE (fun e6 =>
  some e6.1) some)

/-- laws.toSite -/
noncomputable def L_toSite (a : Site) : Option Site :=
  some a

/-- laws.toSiteS -/
noncomputable def L_toSiteS (a : List Site) : Option (List Site) :=
  Option.bind (mkE (⟨0, 0, 0⟩ : Site) (a.length : Int)) fun m1 =>
  Option.bind (iter (S := List Site × Int × Unit) (X := (List Site × Unit) ⊕ (List Site)) (fun s2 =>
    cond (decide (s2.2.1 < (a.length : Int))) (
      Option.bind (rdI a s2.2.1) fun y3 =>
      Option.bind (L_toSite y3) fun r4 =>
      Option.bind (rdI s2.1 s2.2.1) fun y5 =>
      some (.inl (List.set s2.1 (s2.2.1).toNat r4, W (s2.2.1 + 1), ()))) (
      some (.inr (.inl (s2.1, ()))))) (m1, 0, ())) (sumE (fun e6 =>
  some e6.1) some)

/-- laws.toArc -/
noncomputable def L_toArc (a : Arc) : Option Arc :=
  some a

/-- laws.toZone -/
noncomputable def L_toZone (a : Zone) : Option Zone :=
  Option.bind (L_toArc a.Arc) fun r1 =>
  some (⟨a.Plane, r1⟩ : Zone)

/-- laws.toZoneS -/
noncomputable def L_toZoneS (a : List Zone) : Option (List Zone) :=
  Option.bind (mkE (⟨0, (⟨0, 0⟩ : Arc)⟩ : Zone) (a.length : Int)) fun m1 =>
  Option.bind (iter (S := List Zone × Int × Unit) (X := (List Zone × Unit) ⊕ (List Zone)) (fun s2 =>
    cond (decide (s2.2.1 < (a.length : Int))) (
      Option.bind (rdI a s2.2.1) fun y3 =>
      Option.bind (L_toZone y3) fun r4 =>
      Option.bind (rdI s2.1 s2.2.1) fun y5 =>
      some (.inl (List.set s2.1 (s2.2.1).toNat r4, W (s2.2.1 + 1), ()))) (
      some (.inr (.inl (s2.1, ()))))) (m1, 0, ())) (sumE (fun e6 =>
  some e6.1) some)

/-- laws.toSky -/
noncomputable def L_toSky (a : Sky) : Option Sky :=
  Option.bind (L_toSatS a.Sats) fun r1 =>
  Option.bind (L_toSiteS a.Sites) fun r2 =>
  Option.bind (L_toZoneS a.Zones) fun r3 =>
  some ({ a with Sats := r1, Sites := r2, Zones := r3 })

/-- laws.toSpan -/
noncomputable def L_toSpan (a : Span) : Option Span :=
  some a

/-- laws.toLink -/
noncomputable def L_toLink (a : Link) : Option Link :=
  some a

/-- laws.toLinkS -/
noncomputable def L_toLinkS (a : List Link) : Option (List Link) :=
  Option.bind (mkE (⟨0, 0⟩ : Link) (a.length : Int)) fun m1 =>
  Option.bind (iter (S := List Link × Int × Unit) (X := (List Link × Unit) ⊕ (List Link)) (fun s2 =>
    cond (decide (s2.2.1 < (a.length : Int))) (
      Option.bind (rdI a s2.2.1) fun y3 =>
      Option.bind (L_toLink y3) fun r4 =>
      Option.bind (rdI s2.1 s2.2.1) fun y5 =>
      some (.inl (List.set s2.1 (s2.2.1).toNat r4, W (s2.2.1 + 1), ()))) (
      some (.inr (.inl (s2.1, ()))))) (m1, 0, ())) (sumE (fun e6 =>
  some e6.1) some)

/-- laws.toIntS -/
noncomputable def L_toIntS (a : List Int) : Option (List Int) :=
  Option.bind (mkE 0 (a.length : Int)) fun m1 =>
  Option.bind (iter (S := List Int × Int × Unit) (X := (List Int × Unit) ⊕ (List Int)) (fun s2 =>
    cond (decide (s2.2.1 < (a.length : Int))) (
      Option.bind (rdI a s2.2.1) fun y3 =>
      Option.bind (rdI s2.1 s2.2.1) fun y4 =>
      some (.inl (List.set s2.1 (s2.2.1).toNat y3, W (s2.2.1 + 1), ()))) (
      some (.inr (.inl (s2.1, ()))))) (m1, 0, ())) (sumE (fun e5 =>
  some e5.1) some)

/-- laws.toTable -/
noncomputable def L_toTable (a : Table) : Option Table :=
  Option.bind (L_toIntS a.Dist) fun r1 =>
  Option.bind (L_toIntS a.Next) fun r2 =>
  some (⟨a.Dst, r1, r2⟩ : Table)

/-- laws.toTableS -/
noncomputable def L_toTableS (a : List Table) : Option (List Table) :=
  Option.bind (mkE (⟨0, ([] : List Int), ([] : List Int)⟩ : Table) (a.length : Int)) fun m1 =>
  Option.bind (iter (S := List Table × Int × Unit) (X := (List Table × Unit) ⊕ (List Table)) (fun s2 =>
    cond (decide (s2.2.1 < (a.length : Int))) (
      Option.bind (rdI a s2.2.1) fun y3 =>
      Option.bind (L_toTable y3) fun r4 =>
      Option.bind (rdI s2.1 s2.2.1) fun y5 =>
      some (.inl (List.set s2.1 (s2.2.1).toNat r4, W (s2.2.1 + 1), ()))) (
      some (.inr (.inl (s2.1, ()))))) (m1, 0, ())) (sumE (fun e6 =>
  some e6.1) some)

/-- laws.toPiece -/
noncomputable def L_toPiece (a : Piece) : Option Piece :=
  Option.bind (L_toSpan a.Span) fun r1 =>
  Option.bind (L_toLinkS a.Links) fun r2 =>
  Option.bind (L_toTableS a.Tables) fun r3 =>
  some (⟨r1, r2, r3⟩ : Piece)

/-- laws.toPieceS -/
noncomputable def L_toPieceS (a : List Piece) : Option (List Piece) :=
  Option.bind (mkE (⟨(⟨0, 0⟩ : Span), ([] : List Link), ([] : List Table)⟩ : Piece) (a.length : Int)) fun m1 =>
  Option.bind (iter (S := List Piece × Int × Unit) (X := (List Piece × Unit) ⊕ (List Piece)) (fun s2 =>
    cond (decide (s2.2.1 < (a.length : Int))) (
      Option.bind (rdI a s2.2.1) fun y3 =>
      Option.bind (L_toPiece y3) fun r4 =>
      Option.bind (rdI s2.1 s2.2.1) fun y5 =>
      some (.inl (List.set s2.1 (s2.2.1).toNat r4, W (s2.2.1 + 1), ()))) (
      some (.inr (.inl (s2.1, ()))))) (m1, 0, ())) (sumE (fun e6 =>
  some e6.1) some)

/-- laws.toProgram -/
noncomputable def L_toProgram (a : Prog) : Option Prog :=
  Option.bind (L_toPieceS a.Pieces) fun r1 =>
  some ({ a with Pieces := r1 })

/-- laws.toLaw -/
noncomputable def L_toLaw (a : Law) : Option Law :=
  Option.bind (L_toIntS a.Allowed) fun r1 =>
  some (⟨r1⟩ : Law)

/-- laws.toBattery -/
noncomputable def L_toBattery (a : Battery) : Option Battery :=
  some a

/-- laws.toBatteryS -/
noncomputable def L_toBatteryS (a : List Battery) : Option (List Battery) :=
  Option.bind (mkE (⟨0, 0, 0, 0, 0, 0⟩ : Battery) (a.length : Int)) fun m1 =>
  Option.bind (iter (S := List Battery × Int × Unit) (X := (List Battery × Unit) ⊕ (List Battery)) (fun s2 =>
    cond (decide (s2.2.1 < (a.length : Int))) (
      Option.bind (rdI a s2.2.1) fun y3 =>
      Option.bind (L_toBattery y3) fun r4 =>
      Option.bind (rdI s2.1 s2.2.1) fun y5 =>
      some (.inl (List.set s2.1 (s2.2.1).toNat r4, W (s2.2.1 + 1), ()))) (
      some (.inr (.inl (s2.1, ()))))) (m1, 0, ())) (sumE (fun e6 =>
  some e6.1) some)

/-- laws.toPacket -/
noncomputable def L_toPacket (a : Packet) : Option Packet :=
  some a

/-- laws.toPacketS -/
noncomputable def L_toPacketS (a : List Packet) : Option (List Packet) :=
  Option.bind (mkE (⟨0, 0, 0, 0, 0, 0⟩ : Packet) (a.length : Int)) fun m1 =>
  Option.bind (iter (S := List Packet × Int × Unit) (X := (List Packet × Unit) ⊕ (List Packet)) (fun s2 =>
    cond (decide (s2.2.1 < (a.length : Int))) (
      Option.bind (rdI a s2.2.1) fun y3 =>
      Option.bind (L_toPacket y3) fun r4 =>
      Option.bind (rdI s2.1 s2.2.1) fun y5 =>
      some (.inl (List.set s2.1 (s2.2.1).toNat r4, W (s2.2.1 + 1), ()))) (
      some (.inr (.inl (s2.1, ()))))) (m1, 0, ())) (sumE (fun e6 =>
  some e6.1) some)

/-- laws.toQueue -/
noncomputable def L_toQueue (a : Queue) : Option Queue :=
  Option.bind (L_toPacketS a.Items) fun r1 =>
  some (⟨r1⟩ : Queue)

/-- laws.toQueueS -/
noncomputable def L_toQueueS (a : List Queue) : Option (List Queue) :=
  Option.bind (mkE (⟨([] : List Packet)⟩ : Queue) (a.length : Int)) fun m1 =>
  Option.bind (iter (S := List Queue × Int × Unit) (X := (List Queue × Unit) ⊕ (List Queue)) (fun s2 =>
    cond (decide (s2.2.1 < (a.length : Int))) (
      Option.bind (rdI a s2.2.1) fun y3 =>
      Option.bind (L_toQueue y3) fun r4 =>
      Option.bind (rdI s2.1 s2.2.1) fun y5 =>
      some (.inl (List.set s2.1 (s2.2.1).toNat r4, W (s2.2.1 + 1), ()))) (
      some (.inr (.inl (s2.1, ()))))) (m1, 0, ())) (sumE (fun e6 =>
  some e6.1) some)

/-- laws.toFlow -/
noncomputable def L_toFlow (a : Flow) : Option Flow :=
  some a

/-- laws.toFlowS -/
noncomputable def L_toFlowS (a : List Flow) : Option (List Flow) :=
  Option.bind (mkE (⟨0, 0, 0, 0⟩ : Flow) (a.length : Int)) fun m1 =>
  Option.bind (iter (S := List Flow × Int × Unit) (X := (List Flow × Unit) ⊕ (List Flow)) (fun s2 =>
    cond (decide (s2.2.1 < (a.length : Int))) (
      Option.bind (rdI a s2.2.1) fun y3 =>
      Option.bind (L_toFlow y3) fun r4 =>
      Option.bind (rdI s2.1 s2.2.1) fun y5 =>
      some (.inl (List.set s2.1 (s2.2.1).toNat r4, W (s2.2.1 + 1), ()))) (
      some (.inr (.inl (s2.1, ()))))) (m1, 0, ())) (sumE (fun e6 =>
  some e6.1) some)

/-- laws.toStream -/
noncomputable def L_toStream (a : Stream) : Option Stream :=
  Option.bind (L_toIntS a.Kept) fun r1 =>
  some ({ a with Kept := r1 })

/-- laws.toStreamS -/
noncomputable def L_toStreamS (a : List Stream) : Option (List Stream) :=
  Option.bind (mkE (⟨0, 0, ([] : List Int)⟩ : Stream) (a.length : Int)) fun m1 =>
  Option.bind (iter (S := List Stream × Int × Unit) (X := (List Stream × Unit) ⊕ (List Stream)) (fun s2 =>
    cond (decide (s2.2.1 < (a.length : Int))) (
      Option.bind (rdI a s2.2.1) fun y3 =>
      Option.bind (L_toStream y3) fun r4 =>
      Option.bind (rdI s2.1 s2.2.1) fun y5 =>
      some (.inl (List.set s2.1 (s2.2.1).toNat r4, W (s2.2.1 + 1), ()))) (
      some (.inr (.inl (s2.1, ()))))) (m1, 0, ())) (sumE (fun e6 =>
  some e6.1) some)

/-- laws.toFault -/
noncomputable def L_toFault (a : Fault) : Option Fault :=
  some a

/-- laws.toFaultS -/
noncomputable def L_toFaultS (a : List Fault) : Option (List Fault) :=
  Option.bind (mkE (⟨0, 0, 0, 0⟩ : Fault) (a.length : Int)) fun m1 =>
  Option.bind (iter (S := List Fault × Int × Unit) (X := (List Fault × Unit) ⊕ (List Fault)) (fun s2 =>
    cond (decide (s2.2.1 < (a.length : Int))) (
      Option.bind (rdI a s2.2.1) fun y3 =>
      Option.bind (L_toFault y3) fun r4 =>
      Option.bind (rdI s2.1 s2.2.1) fun y5 =>
      some (.inl (List.set s2.1 (s2.2.1).toNat r4, W (s2.2.1 + 1), ()))) (
      some (.inr (.inl (s2.1, ()))))) (m1, 0, ())) (sumE (fun e6 =>
  some e6.1) some)

/-- laws.toSent -/
noncomputable def L_toSent (a : Sent) : Option Sent :=
  some a

/-- laws.toSentS -/
noncomputable def L_toSentS (a : List Sent) : Option (List Sent) :=
  Option.bind (mkE (⟨0, 0, 0, 0⟩ : Sent) (a.length : Int)) fun m1 =>
  Option.bind (iter (S := List Sent × Int × Unit) (X := (List Sent × Unit) ⊕ (List Sent)) (fun s2 =>
    cond (decide (s2.2.1 < (a.length : Int))) (
      Option.bind (rdI a s2.2.1) fun y3 =>
      Option.bind (L_toSent y3) fun r4 =>
      Option.bind (rdI s2.1 s2.2.1) fun y5 =>
      some (.inl (List.set s2.1 (s2.2.1).toNat r4, W (s2.2.1 + 1), ()))) (
      some (.inr (.inl (s2.1, ()))))) (m1, 0, ())) (sumE (fun e6 =>
  some e6.1) some)

/-- laws.toWorld -/
noncomputable def L_toWorld (a : Wd) : Option Wd :=
  Option.bind (L_toSky a.Sky) fun r1 =>
  Option.bind (L_toProgram a.Program) fun r2 =>
  Option.bind (L_toLaw a.Law) fun r3 =>
  Option.bind (L_toIntS a.Offsets) fun r4 =>
  Option.bind (L_toBatteryS a.Batteries) fun r5 =>
  Option.bind (L_toQueueS a.Queues) fun r6 =>
  Option.bind (L_toFlowS a.Flows) fun r7 =>
  Option.bind (L_toIntS a.Counts) fun r8 =>
  Option.bind (L_toStreamS a.Streams) fun r9 =>
  Option.bind (L_toFaultS a.Faults) fun r10 =>
  Option.bind (L_toPacketS a.Done) fun r11 =>
  Option.bind (L_toSentS a.Log) fun r12 =>
  some (⟨r1, r2, r3, r4, r5, r6, r7, r8, r9, r10, a.Now, a.End, r11, r12⟩ : Wd)

/-- impl.cloneSky -/
noncomputable def I_cloneSky (s : Sky) : Option Sky :=
  Option.bind (Clone s.Sats) fun r1 =>
  Option.bind (Clone s.Sites) fun r2 =>
  Option.bind (Clone s.Zones) fun r3 =>
  some ({ s with Sats := r1, Sites := r2, Zones := r3 })

/-- impl.cloneLinks -/
noncomputable def I_cloneLinks (l : List Link) : Option (List Link) :=
  Option.bind (Clone l) fun r1 =>
  some r1

/-- impl.cloneTable -/
noncomputable def I_cloneTable (t : Table) : Option Table :=
  Option.bind (Clone t.Dist) fun r1 =>
  Option.bind (Clone t.Next) fun r2 =>
  some (⟨t.Dst, r1, r2⟩ : Table)

/-- impl.cloneProgram -/
noncomputable def I_cloneProgram (p : Prog) : Option Prog :=
  Option.bind (iter (S := List Piece × Int × Unit) (X := (List Piece × Unit) ⊕ Prog) (fun s1 =>
    cond (decide (s1.2.1 < (p.Pieces.length : Int))) (
      Option.bind (rdI p.Pieces s1.2.1) fun y2 =>
      Option.bind (I_cloneLinks y2.Links) fun r3 =>
      Option.bind (iter (S := Piece × Int × Unit) (X := (Piece × Unit) ⊕ ((List Piece × Int × Unit) ⊕ ((List Piece × Unit) ⊕ Prog))) (fun s4 =>
        cond (decide (s4.2.1 < (y2.Tables.length : Int))) (
          Option.bind (rdI y2.Tables s4.2.1) fun y5 =>
          Option.bind (I_cloneTable y5) fun r6 =>
          Option.bind (appE s4.1.Tables ([r6])) fun xs7 =>
          some (.inl ({ s4.1 with Tables := xs7 }, W (s4.2.1 + 1), ()))) (
          some (.inr (.inl (s4.1, ()))))) ((⟨y2.Span, r3, ([] : List Table)⟩ : Piece), 0, ())) (sumE (fun e8 =>
      Option.bind (appE s1.1 ([e8.1])) fun xs9 =>
      some (.inl (xs9, W (s1.2.1 + 1), ()))) some)) (
      some (.inr (.inl (s1.1, ()))))) (([] : List Piece), 0, ())) (sumE (fun e10 =>
  some ({ p with Pieces := e10.1 })) some)

/-- impl.cloneQueue -/
noncomputable def I_cloneQueue (q : Queue) : Option Queue :=
  Option.bind (Clone q.Items) fun r1 =>
  some (⟨r1⟩ : Queue)

/-- impl.cloneStream -/
noncomputable def I_cloneStream (s : Stream) : Option Stream :=
  Option.bind (Clone s.Kept) fun r1 =>
  some ({ s with Kept := r1 })

/-- impl.cloneWorld -/
noncomputable def I_cloneWorld (x0_ : Wd) : Option Wd :=
  Option.bind (I_cloneSky x0_.Sky) fun r1 =>
  Option.bind (I_cloneProgram x0_.Program) fun r2 =>
  Option.bind (Clone x0_.Law.Allowed) fun r3 =>
  Option.bind (Clone x0_.Offsets) fun r4 =>
  Option.bind (Clone x0_.Batteries) fun r5 =>
  Option.bind (Clone x0_.Flows) fun r6 =>
  Option.bind (Clone x0_.Counts) fun r7 =>
  Option.bind (Clone x0_.Faults) fun r8 =>
  Option.bind (Clone x0_.Done) fun r9 =>
  Option.bind (Clone x0_.Log) fun r10 =>
  Option.bind (iter (S := Wd × Int × Unit) (X := (Wd × Unit) ⊕ Wd) (fun s11 =>
    cond (decide (s11.2.1 < (x0_.Queues.length : Int))) (
      Option.bind (rdI x0_.Queues s11.2.1) fun y12 =>
      Option.bind (I_cloneQueue y12) fun r13 =>
      Option.bind (appE s11.1.Queues ([r13])) fun xs14 =>
      some (.inl ({ s11.1 with Queues := xs14 }, W (s11.2.1 + 1), ()))) (
      some (.inr (.inl (s11.1, ()))))) ((⟨r1, r2, (⟨r3⟩ : Law), r4, r5, ([] : List Queue), r6, r7, ([] : List Stream), r8, x0_.Now, x0_.End, r9, r10⟩ : Wd), 0, ())) (sumE (fun e15 =>
  Option.bind (iter (S := Wd × Int × Unit) (X := (Wd × Unit) ⊕ Wd) (fun s16 =>
    cond (decide (s16.2.1 < (x0_.Streams.length : Int))) (
      Option.bind (rdI x0_.Streams s16.2.1) fun y17 =>
      Option.bind (I_cloneStream y17) fun r18 =>
      Option.bind (appE s16.1.Streams ([r18])) fun xs19 =>
      some (.inl ({ s16.1 with Streams := xs19 }, W (s16.2.1 + 1), ()))) (
      some (.inr (.inl (s16.1, ()))))) (e15.1, 0, ())) (sumE (fun e20 =>
  some e20.1) some)) some)

/-- impl.isIndex -/
noncomputable def I_isIndex (i : Int) (n : Int) : Option Bool :=
  cond (decide (i ≥ 0)) (
    some (decide (i < n))) (
    some false)

/-- impl.InRange -/
noncomputable def I_InRange (n : Int) (low : Int) (high : Int) : Option Bool :=
  cond (decide (low ≤ n)) (
    some (decide (n ≤ high))) (
    some false)

/-- impl.IsSpan -/
noncomputable def I_IsSpan (s : Span) : Option Bool :=
  cond (decide (s.From ≥ 0)) (
    cond (decide (s.To ≤ 1000)) (
      some (decide (s.From < s.To))) (
      some false)) (
    some false)

/-- impl.IsFault -/
noncomputable def I_IsFault (x : Fault) (nodes : Int) : Option Bool :=
  Option.bind (I_isIndex x.A nodes) fun r1 =>
  cond r1 (
    Option.bind (I_InRange x.B (-1) (W (nodes - 1))) fun r2 =>
    cond r2 (
      cond (!(x.B == x.A)) (
        Option.bind (I_IsSpan (⟨x.From, x.To⟩ : Span)) fun r3 =>
        some r3) (
        some false)) (
      some false)) (
    some false)

/-- impl.StepFault -/
noncomputable def I_StepFault (w : Wd) (x : Fault) : Option (Wd × Bool) :=
  Option.bind (I_cloneWorld w) fun r1 =>
  Option.bind (I_IsFault x w.Program.Nodes) fun r2 =>
  cond (!r2) (
    some (r1, false)) (
    cond (decide (x.From < w.Now)) (
      some (r1, false)) (
      cond (decide ((w.Faults.length : Int) ≥ 12)) (
        some (r1, false)) (
        Option.bind (appE r1.Faults ([x])) fun xs3 =>
        some ({ r1 with Faults := xs3 }, true))))

/-- laws.eqSat -/
noncomputable def L_eqSat (a : Sat) (b : Sat) : Option Bool :=
  cond (!(a.Plane == b.Plane)) (
    some false) (
    cond (!(a.Phase == b.Phase)) (
      some false) (
      cond (!(a.Speed == b.Speed)) (
        some false) (
        cond (!(a.Error == b.Error)) (
          some false) (
          some true))))

/-- laws.eqSatS -/
noncomputable def L_eqSatS (a : List Sat) (b : List Sat) : Option Bool :=
  cond (!((a.length : Int) == (b.length : Int))) (
    some false) (
    Option.bind (iter (S := Int × Unit) (X := (Unit) ⊕ Bool) (fun s1 =>
      cond (decide (s1.1 < (a.length : Int))) (
        Option.bind (rdI a s1.1) fun y2 =>
        Option.bind (rdI b s1.1) fun y3 =>
        Option.bind (L_eqSat y2 y3) fun r4 =>
        cond (!r4) (
          some (.inr (.inr false))) (
          some (.inl (W (s1.1 + 1), ())))) (
        some (.inr (.inl ())))) (0, ())) (sumE (fun e5 =>
    some true) some))

/-- laws.eqSite -/
noncomputable def L_eqSite (a : Site) (b : Site) : Option Bool :=
  cond (!(a.Plane == b.Plane)) (
    some false) (
    cond (!(a.Angle == b.Angle)) (
      some false) (
      cond (!(a.Speed == b.Speed)) (
        some false) (
        some true)))

/-- laws.eqSiteS -/
noncomputable def L_eqSiteS (a : List Site) (b : List Site) : Option Bool :=
  cond (!((a.length : Int) == (b.length : Int))) (
    some false) (
    Option.bind (iter (S := Int × Unit) (X := (Unit) ⊕ Bool) (fun s1 =>
      cond (decide (s1.1 < (a.length : Int))) (
        Option.bind (rdI a s1.1) fun y2 =>
        Option.bind (rdI b s1.1) fun y3 =>
        Option.bind (L_eqSite y2 y3) fun r4 =>
        cond (!r4) (
          some (.inr (.inr false))) (
          some (.inl (W (s1.1 + 1), ())))) (
        some (.inr (.inl ())))) (0, ())) (sumE (fun e5 =>
    some true) some))

/-- laws.eqArc -/
noncomputable def L_eqArc (a : Arc) (b : Arc) : Option Bool :=
  cond (!(a.Start == b.Start)) (
    some false) (
    cond (!(a.Width == b.Width)) (
      some false) (
      some true))

/-- laws.eqZone -/
noncomputable def L_eqZone (a : Zone) (b : Zone) : Option Bool :=
  cond (!(a.Plane == b.Plane)) (
    some false) (
    Option.bind (L_eqArc a.Arc b.Arc) fun r1 =>
    cond (!r1) (
      some false) (
      some true))

/-- laws.eqZoneS -/
noncomputable def L_eqZoneS (a : List Zone) (b : List Zone) : Option Bool :=
  cond (!((a.length : Int) == (b.length : Int))) (
    some false) (
    Option.bind (iter (S := Int × Unit) (X := (Unit) ⊕ Bool) (fun s1 =>
      cond (decide (s1.1 < (a.length : Int))) (
        Option.bind (rdI a s1.1) fun y2 =>
        Option.bind (rdI b s1.1) fun y3 =>
        Option.bind (L_eqZone y2 y3) fun r4 =>
        cond (!r4) (
          some (.inr (.inr false))) (
          some (.inl (W (s1.1 + 1), ())))) (
        some (.inr (.inl ())))) (0, ())) (sumE (fun e5 =>
    some true) some))

/-- laws.eqSky -/
noncomputable def L_eqSky (a : Sky) (b : Sky) : Option Bool :=
  cond (!(a.Planes == b.Planes)) (
    some false) (
    Option.bind (L_eqSatS a.Sats b.Sats) fun r1 =>
    cond (!r1) (
      some false) (
      Option.bind (L_eqSiteS a.Sites b.Sites) fun r2 =>
      cond (!r2) (
        some false) (
        cond (!(a.Reach == b.Reach)) (
          some false) (
          cond (!(a.Cross == b.Cross)) (
            some false) (
            cond (!(a.View == b.View)) (
              some false) (
              cond (!(a.Sun == b.Sun)) (
                some false) (
                cond (!(a.Shadow == b.Shadow)) (
                  some false) (
                  Option.bind (L_eqZoneS a.Zones b.Zones) fun r3 =>
                  cond (!r3) (
                    some false) (
                    cond (!(a.Acquire == b.Acquire)) (
                      some false) (
                      some true))))))))))

/-- laws.eqSpan -/
noncomputable def L_eqSpan (a : Span) (b : Span) : Option Bool :=
  cond (!(a.From == b.From)) (
    some false) (
    cond (!(a.To == b.To)) (
      some false) (
      some true))

/-- laws.eqLink -/
noncomputable def L_eqLink (a : Link) (b : Link) : Option Bool :=
  cond (!(a.A == b.A)) (
    some false) (
    cond (!(a.B == b.B)) (
      some false) (
      some true))

/-- laws.eqLinkS -/
noncomputable def L_eqLinkS (a : List Link) (b : List Link) : Option Bool :=
  cond (!((a.length : Int) == (b.length : Int))) (
    some false) (
    Option.bind (iter (S := Int × Unit) (X := (Unit) ⊕ Bool) (fun s1 =>
      cond (decide (s1.1 < (a.length : Int))) (
        Option.bind (rdI a s1.1) fun y2 =>
        Option.bind (rdI b s1.1) fun y3 =>
        Option.bind (L_eqLink y2 y3) fun r4 =>
        cond (!r4) (
          some (.inr (.inr false))) (
          some (.inl (W (s1.1 + 1), ())))) (
        some (.inr (.inl ())))) (0, ())) (sumE (fun e5 =>
    some true) some))

/-- laws.eqIntS -/
noncomputable def L_eqIntS (a : List Int) (b : List Int) : Option Bool :=
  cond (!((a.length : Int) == (b.length : Int))) (
    some false) (
    Option.bind (iter (S := Int × Unit) (X := (Unit) ⊕ Bool) (fun s1 =>
      cond (decide (s1.1 < (a.length : Int))) (
        Option.bind (rdI a s1.1) fun y2 =>
        Option.bind (rdI b s1.1) fun y3 =>
        cond (!(y2 == y3)) (
          some (.inr (.inr false))) (
          some (.inl (W (s1.1 + 1), ())))) (
        some (.inr (.inl ())))) (0, ())) (sumE (fun e4 =>
    some true) some))

/-- laws.eqTable -/
noncomputable def L_eqTable (a : Table) (b : Table) : Option Bool :=
  cond (!(a.Dst == b.Dst)) (
    some false) (
    Option.bind (L_eqIntS a.Dist b.Dist) fun r1 =>
    cond (!r1) (
      some false) (
      Option.bind (L_eqIntS a.Next b.Next) fun r2 =>
      cond (!r2) (
        some false) (
        some true)))

/-- laws.eqTableS -/
noncomputable def L_eqTableS (a : List Table) (b : List Table) : Option Bool :=
  cond (!((a.length : Int) == (b.length : Int))) (
    some false) (
    Option.bind (iter (S := Int × Unit) (X := (Unit) ⊕ Bool) (fun s1 =>
      cond (decide (s1.1 < (a.length : Int))) (
        Option.bind (rdI a s1.1) fun y2 =>
        Option.bind (rdI b s1.1) fun y3 =>
        Option.bind (L_eqTable y2 y3) fun r4 =>
        cond (!r4) (
          some (.inr (.inr false))) (
          some (.inl (W (s1.1 + 1), ())))) (
        some (.inr (.inl ())))) (0, ())) (sumE (fun e5 =>
    some true) some))

/-- laws.eqPiece -/
noncomputable def L_eqPiece (a : Piece) (b : Piece) : Option Bool :=
  Option.bind (L_eqSpan a.Span b.Span) fun r1 =>
  cond (!r1) (
    some false) (
    Option.bind (L_eqLinkS a.Links b.Links) fun r2 =>
    cond (!r2) (
      some false) (
      Option.bind (L_eqTableS a.Tables b.Tables) fun r3 =>
      cond (!r3) (
        some false) (
        some true)))

/-- laws.eqPieceS -/
noncomputable def L_eqPieceS (a : List Piece) (b : List Piece) : Option Bool :=
  cond (!((a.length : Int) == (b.length : Int))) (
    some false) (
    Option.bind (iter (S := Int × Unit) (X := (Unit) ⊕ Bool) (fun s1 =>
      cond (decide (s1.1 < (a.length : Int))) (
        Option.bind (rdI a s1.1) fun y2 =>
        Option.bind (rdI b s1.1) fun y3 =>
        Option.bind (L_eqPiece y2 y3) fun r4 =>
        cond (!r4) (
          some (.inr (.inr false))) (
          some (.inl (W (s1.1 + 1), ())))) (
        some (.inr (.inl ())))) (0, ())) (sumE (fun e5 =>
    some true) some))

/-- laws.eqProgram -/
noncomputable def L_eqProgram (a : Prog) (b : Prog) : Option Bool :=
  cond (!(a.Nodes == b.Nodes)) (
    some false) (
    cond (!(a.First == b.First)) (
      some false) (
      cond (!(a.Skew == b.Skew)) (
        some false) (
        Option.bind (L_eqPieceS a.Pieces b.Pieces) fun r1 =>
        cond (!r1) (
          some false) (
          some true))))

/-- laws.eqLaw -/
noncomputable def L_eqLaw (a : Law) (b : Law) : Option Bool :=
  Option.bind (L_eqIntS a.Allowed b.Allowed) fun r1 =>
  cond (!r1) (
    some false) (
    some true)

/-- laws.eqBattery -/
noncomputable def L_eqBattery (a : Battery) (b : Battery) : Option Bool :=
  cond (!(a.Level == b.Level)) (
    some false) (
    cond (!(a.Cap == b.Cap)) (
      some false) (
      cond (!(a.Reserve == b.Reserve)) (
        some false) (
        cond (!(a.Base == b.Base)) (
          some false) (
          cond (!(a.Send == b.Send)) (
            some false) (
            cond (!(a.Gain == b.Gain)) (
              some false) (
              some true))))))

/-- laws.eqBatteryS -/
noncomputable def L_eqBatteryS (a : List Battery) (b : List Battery) : Option Bool :=
  cond (!((a.length : Int) == (b.length : Int))) (
    some false) (
    Option.bind (iter (S := Int × Unit) (X := (Unit) ⊕ Bool) (fun s1 =>
      cond (decide (s1.1 < (a.length : Int))) (
        Option.bind (rdI a s1.1) fun y2 =>
        Option.bind (rdI b s1.1) fun y3 =>
        Option.bind (L_eqBattery y2 y3) fun r4 =>
        cond (!r4) (
          some (.inr (.inr false))) (
          some (.inl (W (s1.1 + 1), ())))) (
        some (.inr (.inl ())))) (0, ())) (sumE (fun e5 =>
    some true) some))

/-- laws.eqPacket -/
noncomputable def L_eqPacket (a : Packet) (b : Packet) : Option Bool :=
  cond (!(a.Id == b.Id)) (
    some false) (
    cond (!(a.Flow == b.Flow)) (
      some false) (
      cond (!(a.Seq == b.Seq)) (
        some false) (
        cond (!(a.Src == b.Src)) (
          some false) (
          cond (!(a.Dst == b.Dst)) (
            some false) (
            cond (!(a.Class == b.Class)) (
              some false) (
              some true))))))

/-- laws.eqPacketS -/
noncomputable def L_eqPacketS (a : List Packet) (b : List Packet) : Option Bool :=
  cond (!((a.length : Int) == (b.length : Int))) (
    some false) (
    Option.bind (iter (S := Int × Unit) (X := (Unit) ⊕ Bool) (fun s1 =>
      cond (decide (s1.1 < (a.length : Int))) (
        Option.bind (rdI a s1.1) fun y2 =>
        Option.bind (rdI b s1.1) fun y3 =>
        Option.bind (L_eqPacket y2 y3) fun r4 =>
        cond (!r4) (
          some (.inr (.inr false))) (
          some (.inl (W (s1.1 + 1), ())))) (
        some (.inr (.inl ())))) (0, ())) (sumE (fun e5 =>
    some true) some))

/-- laws.eqQueue -/
noncomputable def L_eqQueue (a : Queue) (b : Queue) : Option Bool :=
  Option.bind (L_eqPacketS a.Items b.Items) fun r1 =>
  cond (!r1) (
    some false) (
    some true)

/-- laws.eqQueueS -/
noncomputable def L_eqQueueS (a : List Queue) (b : List Queue) : Option Bool :=
  cond (!((a.length : Int) == (b.length : Int))) (
    some false) (
    Option.bind (iter (S := Int × Unit) (X := (Unit) ⊕ Bool) (fun s1 =>
      cond (decide (s1.1 < (a.length : Int))) (
        Option.bind (rdI a s1.1) fun y2 =>
        Option.bind (rdI b s1.1) fun y3 =>
        Option.bind (L_eqQueue y2 y3) fun r4 =>
        cond (!r4) (
          some (.inr (.inr false))) (
          some (.inl (W (s1.1 + 1), ())))) (
        some (.inr (.inl ())))) (0, ())) (sumE (fun e5 =>
    some true) some))

/-- laws.eqFlow -/
noncomputable def L_eqFlow (a : Flow) (b : Flow) : Option Bool :=
  cond (!(a.Id == b.Id)) (
    some false) (
    cond (!(a.Src == b.Src)) (
      some false) (
      cond (!(a.Dst == b.Dst)) (
        some false) (
        cond (!(a.Class == b.Class)) (
          some false) (
          some true))))

/-- laws.eqFlowS -/
noncomputable def L_eqFlowS (a : List Flow) (b : List Flow) : Option Bool :=
  cond (!((a.length : Int) == (b.length : Int))) (
    some false) (
    Option.bind (iter (S := Int × Unit) (X := (Unit) ⊕ Bool) (fun s1 =>
      cond (decide (s1.1 < (a.length : Int))) (
        Option.bind (rdI a s1.1) fun y2 =>
        Option.bind (rdI b s1.1) fun y3 =>
        Option.bind (L_eqFlow y2 y3) fun r4 =>
        cond (!r4) (
          some (.inr (.inr false))) (
          some (.inl (W (s1.1 + 1), ())))) (
        some (.inr (.inl ())))) (0, ())) (sumE (fun e5 =>
    some true) some))

/-- laws.eqStream -/
noncomputable def L_eqStream (a : Stream) (b : Stream) : Option Bool :=
  cond (!(a.Flow == b.Flow)) (
    some false) (
    cond (!(a.Next == b.Next)) (
      some false) (
      Option.bind (L_eqIntS a.Kept b.Kept) fun r1 =>
      cond (!r1) (
        some false) (
        some true)))

/-- laws.eqStreamS -/
noncomputable def L_eqStreamS (a : List Stream) (b : List Stream) : Option Bool :=
  cond (!((a.length : Int) == (b.length : Int))) (
    some false) (
    Option.bind (iter (S := Int × Unit) (X := (Unit) ⊕ Bool) (fun s1 =>
      cond (decide (s1.1 < (a.length : Int))) (
        Option.bind (rdI a s1.1) fun y2 =>
        Option.bind (rdI b s1.1) fun y3 =>
        Option.bind (L_eqStream y2 y3) fun r4 =>
        cond (!r4) (
          some (.inr (.inr false))) (
          some (.inl (W (s1.1 + 1), ())))) (
        some (.inr (.inl ())))) (0, ())) (sumE (fun e5 =>
    some true) some))

/-- laws.eqFault -/
noncomputable def L_eqFault (a : Fault) (b : Fault) : Option Bool :=
  cond (!(a.A == b.A)) (
    some false) (
    cond (!(a.B == b.B)) (
      some false) (
      cond (!(a.From == b.From)) (
        some false) (
        cond (!(a.To == b.To)) (
          some false) (
          some true))))

/-- laws.eqFaultS -/
noncomputable def L_eqFaultS (a : List Fault) (b : List Fault) : Option Bool :=
  cond (!((a.length : Int) == (b.length : Int))) (
    some false) (
    Option.bind (iter (S := Int × Unit) (X := (Unit) ⊕ Bool) (fun s1 =>
      cond (decide (s1.1 < (a.length : Int))) (
        Option.bind (rdI a s1.1) fun y2 =>
        Option.bind (rdI b s1.1) fun y3 =>
        Option.bind (L_eqFault y2 y3) fun r4 =>
        cond (!r4) (
          some (.inr (.inr false))) (
          some (.inl (W (s1.1 + 1), ())))) (
        some (.inr (.inl ())))) (0, ())) (sumE (fun e5 =>
    some true) some))

/-- laws.eqSent -/
noncomputable def L_eqSent (a : Sent) (b : Sent) : Option Bool :=
  cond (!(a.Tick == b.Tick)) (
    some false) (
    cond (!(a.From == b.From)) (
      some false) (
      cond (!(a.To == b.To)) (
        some false) (
        cond (!(a.Id == b.Id)) (
          some false) (
          some true))))

/-- laws.eqSentS -/
noncomputable def L_eqSentS (a : List Sent) (b : List Sent) : Option Bool :=
  cond (!((a.length : Int) == (b.length : Int))) (
    some false) (
    Option.bind (iter (S := Int × Unit) (X := (Unit) ⊕ Bool) (fun s1 =>
      cond (decide (s1.1 < (a.length : Int))) (
        Option.bind (rdI a s1.1) fun y2 =>
        Option.bind (rdI b s1.1) fun y3 =>
        Option.bind (L_eqSent y2 y3) fun r4 =>
        cond (!r4) (
          some (.inr (.inr false))) (
          some (.inl (W (s1.1 + 1), ())))) (
        some (.inr (.inl ())))) (0, ())) (sumE (fun e5 =>
    some true) some))

/-- laws.eqWorld -/
noncomputable def L_eqWorld (x0_ : Wd) (x1_ : Wd) : Option Bool :=
  Option.bind (L_eqSky x0_.Sky x1_.Sky) fun r1 =>
  cond (!r1) (
    some false) (
    Option.bind (L_eqProgram x0_.Program x1_.Program) fun r2 =>
    cond (!r2) (
      some false) (
      Option.bind (L_eqLaw x0_.Law x1_.Law) fun r3 =>
      cond (!r3) (
        some false) (
        Option.bind (L_eqIntS x0_.Offsets x1_.Offsets) fun r4 =>
        cond (!r4) (
          some false) (
          Option.bind (L_eqBatteryS x0_.Batteries x1_.Batteries) fun r5 =>
          cond (!r5) (
            some false) (
            Option.bind (L_eqQueueS x0_.Queues x1_.Queues) fun r6 =>
            cond (!r6) (
              some false) (
              Option.bind (L_eqFlowS x0_.Flows x1_.Flows) fun r7 =>
              cond (!r7) (
                some false) (
                Option.bind (L_eqIntS x0_.Counts x1_.Counts) fun r8 =>
                cond (!r8) (
                  some false) (
                  Option.bind (L_eqStreamS x0_.Streams x1_.Streams) fun r9 =>
                  cond (!r9) (
                    some false) (
                    Option.bind (L_eqFaultS x0_.Faults x1_.Faults) fun r10 =>
                    cond (!r10) (
                      some false) (
                      cond (!(x0_.Now == x1_.Now)) (
                        some false) (
                        cond (!(x0_.End == x1_.End)) (
                          some false) (
                          Option.bind (L_eqPacketS x0_.Done x1_.Done) fun r11 =>
                          cond (!r11) (
                            some false) (
                            Option.bind (L_eqSentS x0_.Log x1_.Log) fun r12 =>
                            cond (!r12) (
                              some false) (
                              some true))))))))))))))

/-- laws.markSatS -/
noncomputable def L_markSatS (a : List Sat) (k : Int) : Option (List Sat × Int) :=
  Option.bind (iter (S := List Sat × Int × Int × Unit) (X := (List Sat × Int × Unit) ⊕ (List Sat × Int)) (fun s1 =>
    cond (decide (s1.2.2.1 < (s1.1.length : Int))) (
      Option.bind (rdI s1.1 s1.2.2.1) fun y2 =>
      Option.bind (rdI (List.set s1.1 (s1.2.2.1).toNat ({ y2 with Plane := s1.2.1 })) s1.2.2.1) fun y3 =>
      Option.bind (rdI (List.set (List.set s1.1 (s1.2.2.1).toNat ({ y2 with Plane := s1.2.1 })) (s1.2.2.1).toNat ({ y3 with Phase := W (s1.2.1 + 1) })) s1.2.2.1) fun y4 =>
      Option.bind (rdI (List.set (List.set (List.set s1.1 (s1.2.2.1).toNat ({ y2 with Plane := s1.2.1 })) (s1.2.2.1).toNat ({ y3 with Phase := W (s1.2.1 + 1) })) (s1.2.2.1).toNat ({ y4 with Speed := W ((W (s1.2.1 + 1)) + 1) })) s1.2.2.1) fun y5 =>
      some (.inl (List.set (List.set (List.set (List.set s1.1 (s1.2.2.1).toNat ({ y2 with Plane := s1.2.1 })) (s1.2.2.1).toNat ({ y3 with Phase := W (s1.2.1 + 1) })) (s1.2.2.1).toNat ({ y4 with Speed := W ((W (s1.2.1 + 1)) + 1) })) (s1.2.2.1).toNat ({ y5 with Error := W ((W ((W (s1.2.1 + 1)) + 1)) + 1) }), W ((W ((W ((W (s1.2.1 + 1)) + 1)) + 1)) + 1), W (s1.2.2.1 + 1), ()))) (
      some (.inr (.inl (s1.1, s1.2.1, ()))))) (a, k, 0, ())) (sumE (fun e6 =>
  some (e6.1, e6.2.1)) some)

/-- laws.markSiteS -/
noncomputable def L_markSiteS (a : List Site) (k : Int) : Option (List Site × Int) :=
  Option.bind (iter (S := List Site × Int × Int × Unit) (X := (List Site × Int × Unit) ⊕ (List Site × Int)) (fun s1 =>
    cond (decide (s1.2.2.1 < (s1.1.length : Int))) (
      Option.bind (rdI s1.1 s1.2.2.1) fun y2 =>
      Option.bind (rdI (List.set s1.1 (s1.2.2.1).toNat ({ y2 with Plane := s1.2.1 })) s1.2.2.1) fun y3 =>
      Option.bind (rdI (List.set (List.set s1.1 (s1.2.2.1).toNat ({ y2 with Plane := s1.2.1 })) (s1.2.2.1).toNat ({ y3 with Angle := W (s1.2.1 + 1) })) s1.2.2.1) fun y4 =>
      some (.inl (List.set (List.set (List.set s1.1 (s1.2.2.1).toNat ({ y2 with Plane := s1.2.1 })) (s1.2.2.1).toNat ({ y3 with Angle := W (s1.2.1 + 1) })) (s1.2.2.1).toNat ({ y4 with Speed := W ((W (s1.2.1 + 1)) + 1) }), W ((W ((W (s1.2.1 + 1)) + 1)) + 1), W (s1.2.2.1 + 1), ()))) (
      some (.inr (.inl (s1.1, s1.2.1, ()))))) (a, k, 0, ())) (sumE (fun e5 =>
  some (e5.1, e5.2.1)) some)

/-- laws.markZoneS -/
noncomputable def L_markZoneS (a : List Zone) (k : Int) : Option (List Zone × Int) :=
  Option.bind (iter (S := List Zone × Int × Int × Unit) (X := (List Zone × Int × Unit) ⊕ (List Zone × Int)) (fun s1 =>
    cond (decide (s1.2.2.1 < (s1.1.length : Int))) (
      Option.bind (rdI s1.1 s1.2.2.1) fun y2 =>
      Option.bind (rdI (List.set s1.1 (s1.2.2.1).toNat (⟨s1.2.1, y2.Arc⟩ : Zone)) s1.2.2.1) fun y3 =>
      Option.bind (rdI (List.set (List.set s1.1 (s1.2.2.1).toNat (⟨s1.2.1, y2.Arc⟩ : Zone)) (s1.2.2.1).toNat (⟨y3.Plane, (⟨W (s1.2.1 + 1), y3.Arc.Width⟩ : Arc)⟩ : Zone)) s1.2.2.1) fun y4 =>
      some (.inl (List.set (List.set (List.set s1.1 (s1.2.2.1).toNat (⟨s1.2.1, y2.Arc⟩ : Zone)) (s1.2.2.1).toNat (⟨y3.Plane, (⟨W (s1.2.1 + 1), y3.Arc.Width⟩ : Arc)⟩ : Zone)) (s1.2.2.1).toNat (⟨y4.Plane, (⟨y4.Arc.Start, W ((W (s1.2.1 + 1)) + 1)⟩ : Arc)⟩ : Zone), W ((W ((W (s1.2.1 + 1)) + 1)) + 1), W (s1.2.2.1 + 1), ()))) (
      some (.inr (.inl (s1.1, s1.2.1, ()))))) (a, k, 0, ())) (sumE (fun e5 =>
  some (e5.1, e5.2.1)) some)

/-- laws.markSky -/
noncomputable def L_markSky (a : Sky) (k : Int) : Option (Sky × Int) :=
  Option.bind (L_markSatS a.Sats k) fun r1 =>
  Option.bind (L_markSiteS a.Sites r1.2) fun r2 =>
  Option.bind (L_markZoneS a.Zones r2.2) fun r3 =>
  some ({ a with Sats := r1.1, Sites := r2.1, Zones := r3.1 }, r3.2)

/-- laws.markLinkS -/
noncomputable def L_markLinkS (a : List Link) (k : Int) : Option (List Link × Int) :=
  Option.bind (iter (S := List Link × Int × Int × Unit) (X := (List Link × Int × Unit) ⊕ (List Link × Int)) (fun s1 =>
    cond (decide (s1.2.2.1 < (s1.1.length : Int))) (
      Option.bind (rdI s1.1 s1.2.2.1) fun y2 =>
      Option.bind (rdI (List.set s1.1 (s1.2.2.1).toNat (⟨s1.2.1, y2.B⟩ : Link)) s1.2.2.1) fun y3 =>
      some (.inl (List.set (List.set s1.1 (s1.2.2.1).toNat (⟨s1.2.1, y2.B⟩ : Link)) (s1.2.2.1).toNat (⟨y3.A, W (s1.2.1 + 1)⟩ : Link), W ((W (s1.2.1 + 1)) + 1), W (s1.2.2.1 + 1), ()))) (
      some (.inr (.inl (s1.1, s1.2.1, ()))))) (a, k, 0, ())) (sumE (fun e4 =>
  some (e4.1, e4.2.1)) some)

/-- laws.markIntS -/
noncomputable def L_markIntS (a : List Int) (k : Int) : Option (List Int × Int) :=
  Option.bind (iter (S := List Int × Int × Int × Unit) (X := (List Int × Int × Unit) ⊕ (List Int × Int)) (fun s1 =>
    cond (decide (s1.2.2.1 < (s1.1.length : Int))) (
      Option.bind (rdI s1.1 s1.2.2.1) fun y2 =>
      some (.inl (List.set s1.1 (s1.2.2.1).toNat s1.2.1, W (s1.2.1 + 1), W (s1.2.2.1 + 1), ()))) (
      some (.inr (.inl (s1.1, s1.2.1, ()))))) (a, k, 0, ())) (sumE (fun e3 =>
  some (e3.1, e3.2.1)) some)

/-- laws.markTableS -/
noncomputable def L_markTableS (a : List Table) (k : Int) : Option (List Table × Int) :=
  Option.bind (iter (S := List Table × Int × Int × Unit) (X := (List Table × Int × Unit) ⊕ (List Table × Int)) (fun s1 =>
    cond (decide (s1.2.2.1 < (s1.1.length : Int))) (
      Option.bind (rdI s1.1 s1.2.2.1) fun y2 =>
      Option.bind (rdI (List.set s1.1 (s1.2.2.1).toNat ({ y2 with Dst := s1.2.1 })) s1.2.2.1) fun y3 =>
      Option.bind (L_markIntS y3.Dist (W (s1.2.1 + 1))) fun r4 =>
      Option.bind (rdI (List.set (List.set s1.1 (s1.2.2.1).toNat ({ y2 with Dst := s1.2.1 })) (s1.2.2.1).toNat ({ y3 with Dist := r4.1 })) s1.2.2.1) fun y5 =>
      Option.bind (L_markIntS y5.Next r4.2) fun r6 =>
      some (.inl (List.set (List.set (List.set s1.1 (s1.2.2.1).toNat ({ y2 with Dst := s1.2.1 })) (s1.2.2.1).toNat ({ y3 with Dist := r4.1 })) (s1.2.2.1).toNat ({ y5 with Next := r6.1 }), r6.2, W (s1.2.2.1 + 1), ()))) (
      some (.inr (.inl (s1.1, s1.2.1, ()))))) (a, k, 0, ())) (sumE (fun e7 =>
  some (e7.1, e7.2.1)) some)

/-- laws.markPieceS -/
noncomputable def L_markPieceS (a : List Piece) (k : Int) : Option (List Piece × Int) :=
  Option.bind (iter (S := List Piece × Int × Int × Unit) (X := (List Piece × Int × Unit) ⊕ (List Piece × Int)) (fun s1 =>
    cond (decide (s1.2.2.1 < (s1.1.length : Int))) (
      Option.bind (rdI s1.1 s1.2.2.1) fun y2 =>
      Option.bind (rdI (List.set s1.1 (s1.2.2.1).toNat ({ y2 with Span := (⟨s1.2.1, y2.Span.To⟩ : Span) })) s1.2.2.1) fun y3 =>
      Option.bind (rdI (List.set (List.set s1.1 (s1.2.2.1).toNat ({ y2 with Span := (⟨s1.2.1, y2.Span.To⟩ : Span) })) (s1.2.2.1).toNat ({ y3 with Span := (⟨y3.Span.From, W (s1.2.1 + 1)⟩ : Span) })) s1.2.2.1) fun y4 =>
      Option.bind (L_markLinkS y4.Links (W ((W (s1.2.1 + 1)) + 1))) fun r5 =>
      Option.bind (rdI (List.set (List.set (List.set s1.1 (s1.2.2.1).toNat ({ y2 with Span := (⟨s1.2.1, y2.Span.To⟩ : Span) })) (s1.2.2.1).toNat ({ y3 with Span := (⟨y3.Span.From, W (s1.2.1 + 1)⟩ : Span) })) (s1.2.2.1).toNat ({ y4 with Links := r5.1 })) s1.2.2.1) fun y6 =>
      Option.bind (L_markTableS y6.Tables r5.2) fun r7 =>
      some (.inl (List.set (List.set (List.set (List.set s1.1 (s1.2.2.1).toNat ({ y2 with Span := (⟨s1.2.1, y2.Span.To⟩ : Span) })) (s1.2.2.1).toNat ({ y3 with Span := (⟨y3.Span.From, W (s1.2.1 + 1)⟩ : Span) })) (s1.2.2.1).toNat ({ y4 with Links := r5.1 })) (s1.2.2.1).toNat ({ y6 with Tables := r7.1 }), r7.2, W (s1.2.2.1 + 1), ()))) (
      some (.inr (.inl (s1.1, s1.2.1, ()))))) (a, k, 0, ())) (sumE (fun e8 =>
  some (e8.1, e8.2.1)) some)

/-- laws.markProgram -/
noncomputable def L_markProgram (a : Prog) (k : Int) : Option (Prog × Int) :=
  Option.bind (L_markPieceS a.Pieces k) fun r1 =>
  some ({ a with Pieces := r1.1 }, r1.2)

/-- laws.markLaw -/
noncomputable def L_markLaw (a : Law) (k : Int) : Option (Law × Int) :=
  Option.bind (L_markIntS a.Allowed k) fun r1 =>
  some ((⟨r1.1⟩ : Law), r1.2)

/-- laws.markBatteryS -/
noncomputable def L_markBatteryS (a : List Battery) (k : Int) : Option (List Battery × Int) :=
  Option.bind (iter (S := List Battery × Int × Int × Unit) (X := (List Battery × Int × Unit) ⊕ (List Battery × Int)) (fun s1 =>
    cond (decide (s1.2.2.1 < (s1.1.length : Int))) (
      Option.bind (rdI s1.1 s1.2.2.1) fun y2 =>
      Option.bind (rdI (List.set s1.1 (s1.2.2.1).toNat ({ y2 with Level := s1.2.1 })) s1.2.2.1) fun y3 =>
      Option.bind (rdI (List.set (List.set s1.1 (s1.2.2.1).toNat ({ y2 with Level := s1.2.1 })) (s1.2.2.1).toNat ({ y3 with Cap := W (s1.2.1 + 1) })) s1.2.2.1) fun y4 =>
      Option.bind (rdI (List.set (List.set (List.set s1.1 (s1.2.2.1).toNat ({ y2 with Level := s1.2.1 })) (s1.2.2.1).toNat ({ y3 with Cap := W (s1.2.1 + 1) })) (s1.2.2.1).toNat ({ y4 with Reserve := W ((W (s1.2.1 + 1)) + 1) })) s1.2.2.1) fun y5 =>
      Option.bind (rdI (List.set (List.set (List.set (List.set s1.1 (s1.2.2.1).toNat ({ y2 with Level := s1.2.1 })) (s1.2.2.1).toNat ({ y3 with Cap := W (s1.2.1 + 1) })) (s1.2.2.1).toNat ({ y4 with Reserve := W ((W (s1.2.1 + 1)) + 1) })) (s1.2.2.1).toNat ({ y5 with Base := W ((W ((W (s1.2.1 + 1)) + 1)) + 1) })) s1.2.2.1) fun y6 =>
      Option.bind (rdI (List.set (List.set (List.set (List.set (List.set s1.1 (s1.2.2.1).toNat ({ y2 with Level := s1.2.1 })) (s1.2.2.1).toNat ({ y3 with Cap := W (s1.2.1 + 1) })) (s1.2.2.1).toNat ({ y4 with Reserve := W ((W (s1.2.1 + 1)) + 1) })) (s1.2.2.1).toNat ({ y5 with Base := W ((W ((W (s1.2.1 + 1)) + 1)) + 1) })) (s1.2.2.1).toNat ({ y6 with Send := W ((W ((W ((W (s1.2.1 + 1)) + 1)) + 1)) + 1) })) s1.2.2.1) fun y7 =>
      some (.inl (List.set (List.set (List.set (List.set (List.set (List.set s1.1 (s1.2.2.1).toNat ({ y2 with Level := s1.2.1 })) (s1.2.2.1).toNat ({ y3 with Cap := W (s1.2.1 + 1) })) (s1.2.2.1).toNat ({ y4 with Reserve := W ((W (s1.2.1 + 1)) + 1) })) (s1.2.2.1).toNat ({ y5 with Base := W ((W ((W (s1.2.1 + 1)) + 1)) + 1) })) (s1.2.2.1).toNat ({ y6 with Send := W ((W ((W ((W (s1.2.1 + 1)) + 1)) + 1)) + 1) })) (s1.2.2.1).toNat ({ y7 with Gain := W ((W ((W ((W ((W (s1.2.1 + 1)) + 1)) + 1)) + 1)) + 1) }), W ((W ((W ((W ((W ((W (s1.2.1 + 1)) + 1)) + 1)) + 1)) + 1)) + 1), W (s1.2.2.1 + 1), ()))) (
      some (.inr (.inl (s1.1, s1.2.1, ()))))) (a, k, 0, ())) (sumE (fun e8 =>
  some (e8.1, e8.2.1)) some)

/-- laws.markPacketS -/
noncomputable def L_markPacketS (a : List Packet) (k : Int) : Option (List Packet × Int) :=
  Option.bind (iter (S := List Packet × Int × Int × Unit) (X := (List Packet × Int × Unit) ⊕ (List Packet × Int)) (fun s1 =>
    cond (decide (s1.2.2.1 < (s1.1.length : Int))) (
      Option.bind (rdI s1.1 s1.2.2.1) fun y2 =>
      Option.bind (rdI (List.set s1.1 (s1.2.2.1).toNat ({ y2 with Id := s1.2.1 })) s1.2.2.1) fun y3 =>
      Option.bind (rdI (List.set (List.set s1.1 (s1.2.2.1).toNat ({ y2 with Id := s1.2.1 })) (s1.2.2.1).toNat ({ y3 with Flow := W (s1.2.1 + 1) })) s1.2.2.1) fun y4 =>
      Option.bind (rdI (List.set (List.set (List.set s1.1 (s1.2.2.1).toNat ({ y2 with Id := s1.2.1 })) (s1.2.2.1).toNat ({ y3 with Flow := W (s1.2.1 + 1) })) (s1.2.2.1).toNat ({ y4 with Seq := W ((W (s1.2.1 + 1)) + 1) })) s1.2.2.1) fun y5 =>
      Option.bind (rdI (List.set (List.set (List.set (List.set s1.1 (s1.2.2.1).toNat ({ y2 with Id := s1.2.1 })) (s1.2.2.1).toNat ({ y3 with Flow := W (s1.2.1 + 1) })) (s1.2.2.1).toNat ({ y4 with Seq := W ((W (s1.2.1 + 1)) + 1) })) (s1.2.2.1).toNat ({ y5 with Src := W ((W ((W (s1.2.1 + 1)) + 1)) + 1) })) s1.2.2.1) fun y6 =>
      Option.bind (rdI (List.set (List.set (List.set (List.set (List.set s1.1 (s1.2.2.1).toNat ({ y2 with Id := s1.2.1 })) (s1.2.2.1).toNat ({ y3 with Flow := W (s1.2.1 + 1) })) (s1.2.2.1).toNat ({ y4 with Seq := W ((W (s1.2.1 + 1)) + 1) })) (s1.2.2.1).toNat ({ y5 with Src := W ((W ((W (s1.2.1 + 1)) + 1)) + 1) })) (s1.2.2.1).toNat ({ y6 with Dst := W ((W ((W ((W (s1.2.1 + 1)) + 1)) + 1)) + 1) })) s1.2.2.1) fun y7 =>
      some (.inl (List.set (List.set (List.set (List.set (List.set (List.set s1.1 (s1.2.2.1).toNat ({ y2 with Id := s1.2.1 })) (s1.2.2.1).toNat ({ y3 with Flow := W (s1.2.1 + 1) })) (s1.2.2.1).toNat ({ y4 with Seq := W ((W (s1.2.1 + 1)) + 1) })) (s1.2.2.1).toNat ({ y5 with Src := W ((W ((W (s1.2.1 + 1)) + 1)) + 1) })) (s1.2.2.1).toNat ({ y6 with Dst := W ((W ((W ((W (s1.2.1 + 1)) + 1)) + 1)) + 1) })) (s1.2.2.1).toNat ({ y7 with Class := W ((W ((W ((W ((W (s1.2.1 + 1)) + 1)) + 1)) + 1)) + 1) }), W ((W ((W ((W ((W ((W (s1.2.1 + 1)) + 1)) + 1)) + 1)) + 1)) + 1), W (s1.2.2.1 + 1), ()))) (
      some (.inr (.inl (s1.1, s1.2.1, ()))))) (a, k, 0, ())) (sumE (fun e8 =>
  some (e8.1, e8.2.1)) some)

/-- laws.markQueueS -/
noncomputable def L_markQueueS (a : List Queue) (k : Int) : Option (List Queue × Int) :=
  Option.bind (iter (S := List Queue × Int × Int × Unit) (X := (List Queue × Int × Unit) ⊕ (List Queue × Int)) (fun s1 =>
    cond (decide (s1.2.2.1 < (s1.1.length : Int))) (
      Option.bind (rdI s1.1 s1.2.2.1) fun y2 =>
      Option.bind (L_markPacketS y2.Items s1.2.1) fun r3 =>
      some (.inl (List.set s1.1 (s1.2.2.1).toNat (⟨r3.1⟩ : Queue), r3.2, W (s1.2.2.1 + 1), ()))) (
      some (.inr (.inl (s1.1, s1.2.1, ()))))) (a, k, 0, ())) (sumE (fun e4 =>
  some (e4.1, e4.2.1)) some)

/-- laws.markFlowS -/
noncomputable def L_markFlowS (a : List Flow) (k : Int) : Option (List Flow × Int) :=
  Option.bind (iter (S := List Flow × Int × Int × Unit) (X := (List Flow × Int × Unit) ⊕ (List Flow × Int)) (fun s1 =>
    cond (decide (s1.2.2.1 < (s1.1.length : Int))) (
      Option.bind (rdI s1.1 s1.2.2.1) fun y2 =>
      Option.bind (rdI (List.set s1.1 (s1.2.2.1).toNat ({ y2 with Id := s1.2.1 })) s1.2.2.1) fun y3 =>
      Option.bind (rdI (List.set (List.set s1.1 (s1.2.2.1).toNat ({ y2 with Id := s1.2.1 })) (s1.2.2.1).toNat ({ y3 with Src := W (s1.2.1 + 1) })) s1.2.2.1) fun y4 =>
      Option.bind (rdI (List.set (List.set (List.set s1.1 (s1.2.2.1).toNat ({ y2 with Id := s1.2.1 })) (s1.2.2.1).toNat ({ y3 with Src := W (s1.2.1 + 1) })) (s1.2.2.1).toNat ({ y4 with Dst := W ((W (s1.2.1 + 1)) + 1) })) s1.2.2.1) fun y5 =>
      some (.inl (List.set (List.set (List.set (List.set s1.1 (s1.2.2.1).toNat ({ y2 with Id := s1.2.1 })) (s1.2.2.1).toNat ({ y3 with Src := W (s1.2.1 + 1) })) (s1.2.2.1).toNat ({ y4 with Dst := W ((W (s1.2.1 + 1)) + 1) })) (s1.2.2.1).toNat ({ y5 with Class := W ((W ((W (s1.2.1 + 1)) + 1)) + 1) }), W ((W ((W ((W (s1.2.1 + 1)) + 1)) + 1)) + 1), W (s1.2.2.1 + 1), ()))) (
      some (.inr (.inl (s1.1, s1.2.1, ()))))) (a, k, 0, ())) (sumE (fun e6 =>
  some (e6.1, e6.2.1)) some)

/-- laws.markStreamS -/
noncomputable def L_markStreamS (a : List Stream) (k : Int) : Option (List Stream × Int) :=
  Option.bind (iter (S := List Stream × Int × Int × Unit) (X := (List Stream × Int × Unit) ⊕ (List Stream × Int)) (fun s1 =>
    cond (decide (s1.2.2.1 < (s1.1.length : Int))) (
      Option.bind (rdI s1.1 s1.2.2.1) fun y2 =>
      Option.bind (rdI (List.set s1.1 (s1.2.2.1).toNat ({ y2 with Flow := s1.2.1 })) s1.2.2.1) fun y3 =>
      Option.bind (rdI (List.set (List.set s1.1 (s1.2.2.1).toNat ({ y2 with Flow := s1.2.1 })) (s1.2.2.1).toNat ({ y3 with Next := W (s1.2.1 + 1) })) s1.2.2.1) fun y4 =>
      Option.bind (L_markIntS y4.Kept (W ((W (s1.2.1 + 1)) + 1))) fun r5 =>
      some (.inl (List.set (List.set (List.set s1.1 (s1.2.2.1).toNat ({ y2 with Flow := s1.2.1 })) (s1.2.2.1).toNat ({ y3 with Next := W (s1.2.1 + 1) })) (s1.2.2.1).toNat ({ y4 with Kept := r5.1 }), r5.2, W (s1.2.2.1 + 1), ()))) (
      some (.inr (.inl (s1.1, s1.2.1, ()))))) (a, k, 0, ())) (sumE (fun e6 =>
  some (e6.1, e6.2.1)) some)

/-- laws.markFaultS -/
noncomputable def L_markFaultS (a : List Fault) (k : Int) : Option (List Fault × Int) :=
  Option.bind (iter (S := List Fault × Int × Int × Unit) (X := (List Fault × Int × Unit) ⊕ (List Fault × Int)) (fun s1 =>
    cond (decide (s1.2.2.1 < (s1.1.length : Int))) (
      Option.bind (rdI s1.1 s1.2.2.1) fun y2 =>
      Option.bind (rdI (List.set s1.1 (s1.2.2.1).toNat ({ y2 with A := s1.2.1 })) s1.2.2.1) fun y3 =>
      Option.bind (rdI (List.set (List.set s1.1 (s1.2.2.1).toNat ({ y2 with A := s1.2.1 })) (s1.2.2.1).toNat ({ y3 with B := W (s1.2.1 + 1) })) s1.2.2.1) fun y4 =>
      Option.bind (rdI (List.set (List.set (List.set s1.1 (s1.2.2.1).toNat ({ y2 with A := s1.2.1 })) (s1.2.2.1).toNat ({ y3 with B := W (s1.2.1 + 1) })) (s1.2.2.1).toNat ({ y4 with From := W ((W (s1.2.1 + 1)) + 1) })) s1.2.2.1) fun y5 =>
      some (.inl (List.set (List.set (List.set (List.set s1.1 (s1.2.2.1).toNat ({ y2 with A := s1.2.1 })) (s1.2.2.1).toNat ({ y3 with B := W (s1.2.1 + 1) })) (s1.2.2.1).toNat ({ y4 with From := W ((W (s1.2.1 + 1)) + 1) })) (s1.2.2.1).toNat ({ y5 with To := W ((W ((W (s1.2.1 + 1)) + 1)) + 1) }), W ((W ((W ((W (s1.2.1 + 1)) + 1)) + 1)) + 1), W (s1.2.2.1 + 1), ()))) (
      some (.inr (.inl (s1.1, s1.2.1, ()))))) (a, k, 0, ())) (sumE (fun e6 =>
  some (e6.1, e6.2.1)) some)

/-- laws.markSentS -/
noncomputable def L_markSentS (a : List Sent) (k : Int) : Option (List Sent × Int) :=
  Option.bind (iter (S := List Sent × Int × Int × Unit) (X := (List Sent × Int × Unit) ⊕ (List Sent × Int)) (fun s1 =>
    cond (decide (s1.2.2.1 < (s1.1.length : Int))) (
      Option.bind (rdI s1.1 s1.2.2.1) fun y2 =>
      Option.bind (rdI (List.set s1.1 (s1.2.2.1).toNat ({ y2 with Tick := s1.2.1 })) s1.2.2.1) fun y3 =>
      Option.bind (rdI (List.set (List.set s1.1 (s1.2.2.1).toNat ({ y2 with Tick := s1.2.1 })) (s1.2.2.1).toNat ({ y3 with From := W (s1.2.1 + 1) })) s1.2.2.1) fun y4 =>
      Option.bind (rdI (List.set (List.set (List.set s1.1 (s1.2.2.1).toNat ({ y2 with Tick := s1.2.1 })) (s1.2.2.1).toNat ({ y3 with From := W (s1.2.1 + 1) })) (s1.2.2.1).toNat ({ y4 with To := W ((W (s1.2.1 + 1)) + 1) })) s1.2.2.1) fun y5 =>
      some (.inl (List.set (List.set (List.set (List.set s1.1 (s1.2.2.1).toNat ({ y2 with Tick := s1.2.1 })) (s1.2.2.1).toNat ({ y3 with From := W (s1.2.1 + 1) })) (s1.2.2.1).toNat ({ y4 with To := W ((W (s1.2.1 + 1)) + 1) })) (s1.2.2.1).toNat ({ y5 with Id := W ((W ((W (s1.2.1 + 1)) + 1)) + 1) }), W ((W ((W ((W (s1.2.1 + 1)) + 1)) + 1)) + 1), W (s1.2.2.1 + 1), ()))) (
      some (.inr (.inl (s1.1, s1.2.1, ()))))) (a, k, 0, ())) (sumE (fun e6 =>
  some (e6.1, e6.2.1)) some)

/-- laws.markWorld -/
noncomputable def L_markWorld (a : Wd) (k : Int) : Option (Wd × Int) :=
  Option.bind (L_markSky a.Sky k) fun r1 =>
  Option.bind (L_markProgram a.Program r1.2) fun r2 =>
  Option.bind (L_markLaw a.Law r2.2) fun r3 =>
  Option.bind (L_markIntS a.Offsets r3.2) fun r4 =>
  Option.bind (L_markBatteryS a.Batteries r4.2) fun r5 =>
  Option.bind (L_markQueueS a.Queues r5.2) fun r6 =>
  Option.bind (L_markFlowS a.Flows r6.2) fun r7 =>
  Option.bind (L_markIntS a.Counts r7.2) fun r8 =>
  Option.bind (L_markStreamS a.Streams r8.2) fun r9 =>
  Option.bind (L_markFaultS a.Faults r9.2) fun r10 =>
  Option.bind (L_markPacketS a.Done r10.2) fun r11 =>
  Option.bind (L_markSentS a.Log r11.2) fun r12 =>
  some ((⟨r1.1, r2.1, r3.1, r4.1, r5.1, r6.1, r7.1, r8.1, r9.1, r10.1, a.Now, a.End, r11.1, r12.1⟩ : Wd), r12.2)

/-- laws.heldSatS -/
noncomputable def L_heldSatS (a : List Sat) (k : Int) : Option Int :=
  Option.bind (iter (S := Int × Int × Unit) (X := (Int × Unit) ⊕ Int) (fun s1 =>
    cond (decide (s1.2.1 < (a.length : Int))) (
      Option.bind (rdI a s1.2.1) fun y2 =>
      cond (!(y2.Plane == s1.1)) (
        some (.inr (.inr (-1)))) (
        Option.bind (rdI a s1.2.1) fun y3 =>
        cond (!(y3.Phase == (W (s1.1 + 1)))) (
          some (.inr (.inr (-1)))) (
          Option.bind (rdI a s1.2.1) fun y4 =>
          cond (!(y4.Speed == (W ((W (s1.1 + 1)) + 1)))) (
            some (.inr (.inr (-1)))) (
            Option.bind (rdI a s1.2.1) fun y5 =>
            cond (!(y5.Error == (W ((W ((W (s1.1 + 1)) + 1)) + 1)))) (
              some (.inr (.inr (-1)))) (
              some (.inl (W ((W ((W ((W (s1.1 + 1)) + 1)) + 1)) + 1), W (s1.2.1 + 1), ()))))))) (
      some (.inr (.inl (s1.1, ()))))) (k, 0, ())) (sumE (fun e6 =>
  some e6.1) some)

/-- laws.heldSiteS -/
noncomputable def L_heldSiteS (a : List Site) (k : Int) : Option Int :=
  Option.bind (iter (S := Int × Int × Unit) (X := (Int × Unit) ⊕ Int) (fun s1 =>
    cond (decide (s1.2.1 < (a.length : Int))) (
      Option.bind (rdI a s1.2.1) fun y2 =>
      cond (!(y2.Plane == s1.1)) (
        some (.inr (.inr (-1)))) (
        Option.bind (rdI a s1.2.1) fun y3 =>
        cond (!(y3.Angle == (W (s1.1 + 1)))) (
          some (.inr (.inr (-1)))) (
          Option.bind (rdI a s1.2.1) fun y4 =>
          cond (!(y4.Speed == (W ((W (s1.1 + 1)) + 1)))) (
            some (.inr (.inr (-1)))) (
            some (.inl (W ((W ((W (s1.1 + 1)) + 1)) + 1), W (s1.2.1 + 1), ())))))) (
      some (.inr (.inl (s1.1, ()))))) (k, 0, ())) (sumE (fun e5 =>
  some e5.1) some)

/-- laws.heldZoneS -/
noncomputable def L_heldZoneS (a : List Zone) (k : Int) : Option Int :=
  Option.bind (iter (S := Int × Int × Unit) (X := (Int × Unit) ⊕ Int) (fun s1 =>
    cond (decide (s1.2.1 < (a.length : Int))) (
      Option.bind (rdI a s1.2.1) fun y2 =>
      cond (!(y2.Plane == s1.1)) (
        some (.inr (.inr (-1)))) (
        Option.bind (rdI a s1.2.1) fun y3 =>
        cond (!(y3.Arc.Start == (W (s1.1 + 1)))) (
          some (.inr (.inr (-1)))) (
          Option.bind (rdI a s1.2.1) fun y4 =>
          cond (!(y4.Arc.Width == (W ((W (s1.1 + 1)) + 1)))) (
            some (.inr (.inr (-1)))) (
            some (.inl (W ((W ((W (s1.1 + 1)) + 1)) + 1), W (s1.2.1 + 1), ())))))) (
      some (.inr (.inl (s1.1, ()))))) (k, 0, ())) (sumE (fun e5 =>
  some e5.1) some)

/-- laws.heldSky -/
noncomputable def L_heldSky (a : Sky) (k : Int) : Option Int :=
  Option.bind (L_heldSatS a.Sats k) fun r1 =>
  cond (decide (r1 < 0)) (
    some (-1)) (
    Option.bind (L_heldSiteS a.Sites r1) fun r2 =>
    cond (decide (r2 < 0)) (
      some (-1)) (
      Option.bind (L_heldZoneS a.Zones r2) fun r3 =>
      cond (decide (r3 < 0)) (
        some (-1)) (
        some r3)))

/-- laws.heldLinkS -/
noncomputable def L_heldLinkS (a : List Link) (k : Int) : Option Int :=
  Option.bind (iter (S := Int × Int × Unit) (X := (Int × Unit) ⊕ Int) (fun s1 =>
    cond (decide (s1.2.1 < (a.length : Int))) (
      Option.bind (rdI a s1.2.1) fun y2 =>
      cond (!(y2.A == s1.1)) (
        some (.inr (.inr (-1)))) (
        Option.bind (rdI a s1.2.1) fun y3 =>
        cond (!(y3.B == (W (s1.1 + 1)))) (
          some (.inr (.inr (-1)))) (
          some (.inl (W ((W (s1.1 + 1)) + 1), W (s1.2.1 + 1), ()))))) (
      some (.inr (.inl (s1.1, ()))))) (k, 0, ())) (sumE (fun e4 =>
  some e4.1) some)

/-- laws.heldIntS -/
noncomputable def L_heldIntS (a : List Int) (k : Int) : Option Int :=
  Option.bind (iter (S := Int × Int × Unit) (X := (Int × Unit) ⊕ Int) (fun s1 =>
    cond (decide (s1.2.1 < (a.length : Int))) (
      Option.bind (rdI a s1.2.1) fun y2 =>
      cond (!(y2 == s1.1)) (
        some (.inr (.inr (-1)))) (
        some (.inl (W (s1.1 + 1), W (s1.2.1 + 1), ())))) (
      some (.inr (.inl (s1.1, ()))))) (k, 0, ())) (sumE (fun e3 =>
  some e3.1) some)

/-- laws.heldTableS -/
noncomputable def L_heldTableS (a : List Table) (k : Int) : Option Int :=
  Option.bind (iter (S := Int × Int × Unit) (X := (Int × Unit) ⊕ Int) (fun s1 =>
    cond (decide (s1.2.1 < (a.length : Int))) (
      Option.bind (rdI a s1.2.1) fun y2 =>
      cond (!(y2.Dst == s1.1)) (
        some (.inr (.inr (-1)))) (
        Option.bind (rdI a s1.2.1) fun y3 =>
        Option.bind (L_heldIntS y3.Dist (W (s1.1 + 1))) fun r4 =>
        cond (decide (r4 < 0)) (
          some (.inr (.inr (-1)))) (
          Option.bind (rdI a s1.2.1) fun y5 =>
          Option.bind (L_heldIntS y5.Next r4) fun r6 =>
          cond (decide (r6 < 0)) (
            some (.inr (.inr (-1)))) (
            some (.inl (r6, W (s1.2.1 + 1), ())))))) (
      some (.inr (.inl (s1.1, ()))))) (k, 0, ())) (sumE (fun e7 =>
  some e7.1) some)

/-- laws.heldPieceS -/
noncomputable def L_heldPieceS (a : List Piece) (k : Int) : Option Int :=
  Option.bind (iter (S := Int × Int × Unit) (X := (Int × Unit) ⊕ Int) (fun s1 =>
    cond (decide (s1.2.1 < (a.length : Int))) (
      Option.bind (rdI a s1.2.1) fun y2 =>
      cond (!(y2.Span.From == s1.1)) (
        some (.inr (.inr (-1)))) (
        Option.bind (rdI a s1.2.1) fun y3 =>
        cond (!(y3.Span.To == (W (s1.1 + 1)))) (
          some (.inr (.inr (-1)))) (
          Option.bind (rdI a s1.2.1) fun y4 =>
          Option.bind (L_heldLinkS y4.Links (W ((W (s1.1 + 1)) + 1))) fun r5 =>
          cond (decide (r5 < 0)) (
            some (.inr (.inr (-1)))) (
            Option.bind (rdI a s1.2.1) fun y6 =>
            Option.bind (L_heldTableS y6.Tables r5) fun r7 =>
            cond (decide (r7 < 0)) (
              some (.inr (.inr (-1)))) (
              some (.inl (r7, W (s1.2.1 + 1), ()))))))) (
      some (.inr (.inl (s1.1, ()))))) (k, 0, ())) (sumE (fun e8 =>
  some e8.1) some)

/-- laws.heldProgram -/
noncomputable def L_heldProgram (a : Prog) (k : Int) : Option Int :=
  Option.bind (L_heldPieceS a.Pieces k) fun r1 =>
  cond (decide (r1 < 0)) (
    some (-1)) (
    some r1)

/-- laws.heldLaw -/
noncomputable def L_heldLaw (a : Law) (k : Int) : Option Int :=
  Option.bind (L_heldIntS a.Allowed k) fun r1 =>
  cond (decide (r1 < 0)) (
    some (-1)) (
    some r1)

/-- laws.heldBatteryS -/
noncomputable def L_heldBatteryS (x0_ : List Battery) (x1_ : Int) : Option Int :=
  Option.bind (iter (S := Int × Int × Unit) (X := (Int × Unit) ⊕ Int) (fun s1 =>
    cond (decide (s1.2.1 < (x0_.length : Int))) (
      Option.bind (rdI x0_ s1.2.1) fun y2 =>
      cond (!(y2.Level == s1.1)) (
        some (.inr (.inr (-1)))) (
        Option.bind (rdI x0_ s1.2.1) fun y3 =>
        cond (!(y3.Cap == (W (s1.1 + 1)))) (
          some (.inr (.inr (-1)))) (
          Option.bind (rdI x0_ s1.2.1) fun y4 =>
          cond (!(y4.Reserve == (W ((W (s1.1 + 1)) + 1)))) (
            some (.inr (.inr (-1)))) (
            Option.bind (rdI x0_ s1.2.1) fun y5 =>
            cond (!(y5.Base == (W ((W ((W (s1.1 + 1)) + 1)) + 1)))) (
              some (.inr (.inr (-1)))) (
              Option.bind (rdI x0_ s1.2.1) fun y6 =>
              cond (!(y6.Send == (W ((W ((W ((W (s1.1 + 1)) + 1)) + 1)) + 1)))) (
                some (.inr (.inr (-1)))) (
                Option.bind (rdI x0_ s1.2.1) fun y7 =>
                cond (!(y7.Gain == (W ((W ((W ((W ((W (s1.1 + 1)) + 1)) + 1)) + 1)) + 1)))) (
                  some (.inr (.inr (-1)))) (
                  some (.inl (W ((W ((W ((W ((W ((W (s1.1 + 1)) + 1)) + 1)) + 1)) + 1)) + 1), W (s1.2.1 + 1), ()))))))))) (
      some (.inr (.inl (s1.1, ()))))) (x1_, 0, ())) (sumE (fun e8 =>
  some e8.1) some)

/-- laws.heldPacketS -/
noncomputable def L_heldPacketS (x0_ : List Packet) (x1_ : Int) : Option Int :=
  Option.bind (iter (S := Int × Int × Unit) (X := (Int × Unit) ⊕ Int) (fun s1 =>
    cond (decide (s1.2.1 < (x0_.length : Int))) (
      Option.bind (rdI x0_ s1.2.1) fun y2 =>
      cond (!(y2.Id == s1.1)) (
        some (.inr (.inr (-1)))) (
        Option.bind (rdI x0_ s1.2.1) fun y3 =>
        cond (!(y3.Flow == (W (s1.1 + 1)))) (
          some (.inr (.inr (-1)))) (
          Option.bind (rdI x0_ s1.2.1) fun y4 =>
          cond (!(y4.Seq == (W ((W (s1.1 + 1)) + 1)))) (
            some (.inr (.inr (-1)))) (
            Option.bind (rdI x0_ s1.2.1) fun y5 =>
            cond (!(y5.Src == (W ((W ((W (s1.1 + 1)) + 1)) + 1)))) (
              some (.inr (.inr (-1)))) (
              Option.bind (rdI x0_ s1.2.1) fun y6 =>
              cond (!(y6.Dst == (W ((W ((W ((W (s1.1 + 1)) + 1)) + 1)) + 1)))) (
                some (.inr (.inr (-1)))) (
                Option.bind (rdI x0_ s1.2.1) fun y7 =>
                cond (!(y7.Class == (W ((W ((W ((W ((W (s1.1 + 1)) + 1)) + 1)) + 1)) + 1)))) (
                  some (.inr (.inr (-1)))) (
                  some (.inl (W ((W ((W ((W ((W ((W (s1.1 + 1)) + 1)) + 1)) + 1)) + 1)) + 1), W (s1.2.1 + 1), ()))))))))) (
      some (.inr (.inl (s1.1, ()))))) (x1_, 0, ())) (sumE (fun e8 =>
  some e8.1) some)

/-- laws.heldQueueS -/
noncomputable def L_heldQueueS (a : List Queue) (k : Int) : Option Int :=
  Option.bind (iter (S := Int × Int × Unit) (X := (Int × Unit) ⊕ Int) (fun s1 =>
    cond (decide (s1.2.1 < (a.length : Int))) (
      Option.bind (rdI a s1.2.1) fun y2 =>
      Option.bind (L_heldPacketS y2.Items s1.1) fun r3 =>
      cond (decide (r3 < 0)) (
        some (.inr (.inr (-1)))) (
        some (.inl (r3, W (s1.2.1 + 1), ())))) (
      some (.inr (.inl (s1.1, ()))))) (k, 0, ())) (sumE (fun e4 =>
  some e4.1) some)

/-- laws.heldFlowS -/
noncomputable def L_heldFlowS (a : List Flow) (k : Int) : Option Int :=
  Option.bind (iter (S := Int × Int × Unit) (X := (Int × Unit) ⊕ Int) (fun s1 =>
    cond (decide (s1.2.1 < (a.length : Int))) (
      Option.bind (rdI a s1.2.1) fun y2 =>
      cond (!(y2.Id == s1.1)) (
        some (.inr (.inr (-1)))) (
        Option.bind (rdI a s1.2.1) fun y3 =>
        cond (!(y3.Src == (W (s1.1 + 1)))) (
          some (.inr (.inr (-1)))) (
          Option.bind (rdI a s1.2.1) fun y4 =>
          cond (!(y4.Dst == (W ((W (s1.1 + 1)) + 1)))) (
            some (.inr (.inr (-1)))) (
            Option.bind (rdI a s1.2.1) fun y5 =>
            cond (!(y5.Class == (W ((W ((W (s1.1 + 1)) + 1)) + 1)))) (
              some (.inr (.inr (-1)))) (
              some (.inl (W ((W ((W ((W (s1.1 + 1)) + 1)) + 1)) + 1), W (s1.2.1 + 1), ()))))))) (
      some (.inr (.inl (s1.1, ()))))) (k, 0, ())) (sumE (fun e6 =>
  some e6.1) some)

/-- laws.heldStreamS -/
noncomputable def L_heldStreamS (a : List Stream) (k : Int) : Option Int :=
  Option.bind (iter (S := Int × Int × Unit) (X := (Int × Unit) ⊕ Int) (fun s1 =>
    cond (decide (s1.2.1 < (a.length : Int))) (
      Option.bind (rdI a s1.2.1) fun y2 =>
      cond (!(y2.Flow == s1.1)) (
        some (.inr (.inr (-1)))) (
        Option.bind (rdI a s1.2.1) fun y3 =>
        cond (!(y3.Next == (W (s1.1 + 1)))) (
          some (.inr (.inr (-1)))) (
          Option.bind (rdI a s1.2.1) fun y4 =>
          Option.bind (L_heldIntS y4.Kept (W ((W (s1.1 + 1)) + 1))) fun r5 =>
          cond (decide (r5 < 0)) (
            some (.inr (.inr (-1)))) (
            some (.inl (r5, W (s1.2.1 + 1), ())))))) (
      some (.inr (.inl (s1.1, ()))))) (k, 0, ())) (sumE (fun e6 =>
  some e6.1) some)

/-- laws.heldFaultS -/
noncomputable def L_heldFaultS (a : List Fault) (k : Int) : Option Int :=
  Option.bind (iter (S := Int × Int × Unit) (X := (Int × Unit) ⊕ Int) (fun s1 =>
    cond (decide (s1.2.1 < (a.length : Int))) (
      Option.bind (rdI a s1.2.1) fun y2 =>
      cond (!(y2.A == s1.1)) (
        some (.inr (.inr (-1)))) (
        Option.bind (rdI a s1.2.1) fun y3 =>
        cond (!(y3.B == (W (s1.1 + 1)))) (
          some (.inr (.inr (-1)))) (
          Option.bind (rdI a s1.2.1) fun y4 =>
          cond (!(y4.From == (W ((W (s1.1 + 1)) + 1)))) (
            some (.inr (.inr (-1)))) (
            Option.bind (rdI a s1.2.1) fun y5 =>
            cond (!(y5.To == (W ((W ((W (s1.1 + 1)) + 1)) + 1)))) (
              some (.inr (.inr (-1)))) (
              some (.inl (W ((W ((W ((W (s1.1 + 1)) + 1)) + 1)) + 1), W (s1.2.1 + 1), ()))))))) (
      some (.inr (.inl (s1.1, ()))))) (k, 0, ())) (sumE (fun e6 =>
  some e6.1) some)

/-- laws.heldSentS -/
noncomputable def L_heldSentS (a : List Sent) (k : Int) : Option Int :=
  Option.bind (iter (S := Int × Int × Unit) (X := (Int × Unit) ⊕ Int) (fun s1 =>
    cond (decide (s1.2.1 < (a.length : Int))) (
      Option.bind (rdI a s1.2.1) fun y2 =>
      cond (!(y2.Tick == s1.1)) (
        some (.inr (.inr (-1)))) (
        Option.bind (rdI a s1.2.1) fun y3 =>
        cond (!(y3.From == (W (s1.1 + 1)))) (
          some (.inr (.inr (-1)))) (
          Option.bind (rdI a s1.2.1) fun y4 =>
          cond (!(y4.To == (W ((W (s1.1 + 1)) + 1)))) (
            some (.inr (.inr (-1)))) (
            Option.bind (rdI a s1.2.1) fun y5 =>
            cond (!(y5.Id == (W ((W ((W (s1.1 + 1)) + 1)) + 1)))) (
              some (.inr (.inr (-1)))) (
              some (.inl (W ((W ((W ((W (s1.1 + 1)) + 1)) + 1)) + 1), W (s1.2.1 + 1), ()))))))) (
      some (.inr (.inl (s1.1, ()))))) (k, 0, ())) (sumE (fun e6 =>
  some e6.1) some)

/-- laws.heldWorld -/
noncomputable def L_heldWorld (x0_ : Wd) (x1_ : Int) : Option Int :=
  Option.bind (L_heldSky x0_.Sky x1_) fun r1 =>
  cond (decide (r1 < 0)) (
    some (-1)) (
    Option.bind (L_heldProgram x0_.Program r1) fun r2 =>
    cond (decide (r2 < 0)) (
      some (-1)) (
      Option.bind (L_heldLaw x0_.Law r2) fun r3 =>
      cond (decide (r3 < 0)) (
        some (-1)) (
        Option.bind (L_heldIntS x0_.Offsets r3) fun r4 =>
        cond (decide (r4 < 0)) (
          some (-1)) (
          Option.bind (L_heldBatteryS x0_.Batteries r4) fun r5 =>
          cond (decide (r5 < 0)) (
            some (-1)) (
            Option.bind (L_heldQueueS x0_.Queues r5) fun r6 =>
            cond (decide (r6 < 0)) (
              some (-1)) (
              Option.bind (L_heldFlowS x0_.Flows r6) fun r7 =>
              cond (decide (r7 < 0)) (
                some (-1)) (
                Option.bind (L_heldIntS x0_.Counts r7) fun r8 =>
                cond (decide (r8 < 0)) (
                  some (-1)) (
                  Option.bind (L_heldStreamS x0_.Streams r8) fun r9 =>
                  cond (decide (r9 < 0)) (
                    some (-1)) (
                    Option.bind (L_heldFaultS x0_.Faults r9) fun r10 =>
                    cond (decide (r10 < 0)) (
                      some (-1)) (
                      Option.bind (L_heldPacketS x0_.Done r10) fun r11 =>
                      cond (decide (r11 < 0)) (
                        some (-1)) (
                        Option.bind (L_heldSentS x0_.Log r11) fun r12 =>
                        cond (decide (r12 < 0)) (
                          some (-1)) (
                          some r12))))))))))))

/-- laws.FnExactStepFault -/
noncomputable def L_FnExactStepFault (x0_ : Wd) (x1_ : Fault) : Option Bool :=
  Option.bind (L_szWorld x0_ 1048576) fun r1 =>
  cond (decide (r1 < 0)) (
    some true) (
    Option.bind (L_toWorld x0_) fun r2 =>
    Option.bind (L_toFault x1_) fun r3 =>
    Option.bind (S_StepFault r2 r3) fun r4 =>
    Option.bind (L_toWorld x0_) fun r5 =>
    Option.bind (L_toFault x1_) fun r6 =>
    Option.bind (I_StepFault r5 r6) fun r7 =>
    Option.bind (L_eqWorld r7.1 r4.1) fun r8 =>
    cond (!r8) (
      some false) (
      cond (!(r7.2 == r4.2)) (
        some false) (
        Option.bind (L_toWorld x0_) fun r9 =>
        Option.bind (L_eqWorld r5 r9) fun r10 =>
        cond (!r10) (
          some false) (
          Option.bind (L_markWorld r5 1) fun r11 =>
          cond (decide (r11.2 < 0)) (
            some false) (
            Option.bind (L_eqWorld r7.1 r4.1) fun r12 =>
            cond (!r12) (
              some false) (
              cond (!(r7.2 == r4.2)) (
                some false) (
                Option.bind (L_markWorld r7.1 1) fun r13 =>
                Option.bind (L_heldWorld r13.1 1) fun r14 =>
                cond (decide (r14 < 0)) (
                  some false) (
                  cond (!(r14 == r13.2)) (
                    some false) (
                    Option.bind (L_toWorld x0_) fun r15 =>
                    Option.bind (L_toFault x1_) fun r16 =>
                    Option.bind (I_StepFault r15 r16) fun r17 =>
                    Option.bind (L_eqWorld r17.1 r4.1) fun r18 =>
                    cond (!r18) (
                      some false) (
                      cond (!(r17.2 == r4.2)) (
                        some false) (
                        Option.bind (L_heldWorld r13.1 1) fun r19 =>
                        cond (decide (r19 < 0)) (
                          some false) (
                          cond (!(r19 == r13.2)) (
                            some false) (
                            some true)))))))))))))

/-- spec.l33Flow -/
noncomputable def S_l33Flow (w : Wd) (id : Int) : Option Int :=
  Option.bind (iter (S := Int × Unit) (X := (Unit) ⊕ Int) (fun s1 =>
    cond (decide (s1.1 < (w.Flows.length : Int))) (
      Option.bind (rdI w.Flows s1.1) fun y2 =>
      cond (y2.Id == id) (
        some (.inr (.inr s1.1))) (
        some (.inl (W (s1.1 + 1), ())))) (
      some (.inr (.inl ())))) (0, ())) (sumE (fun e3 =>
  some (-1)) some)

/-- spec.l1In -/
noncomputable def S_l1In (x : Int) (least : Int) (most : Int) : Option Bool :=
  cond (decide (x ≥ least)) (
    some (decide (x ≤ most))) (
    some false)

/-- spec.IsPacket -/
noncomputable def S_IsPacket (x : Packet) (nodes : Int) : Option Bool :=
  Option.bind (S_l1In x.Id 0 9999) fun r1 =>
  cond r1 (
    Option.bind (S_l1In x.Flow 0 9999) fun r2 =>
    cond r2 (
      Option.bind (S_l1In x.Seq 0 9999) fun r3 =>
      cond r3 (
        cond (decide (x.Src ≥ 0)) (
          cond (decide (x.Src < nodes)) (
            cond (decide (x.Dst ≥ 0)) (
              cond (decide (x.Dst < nodes)) (
                cond (!(x.Src == x.Dst)) (
                  Option.bind (S_l1In x.Class 0 1) fun r4 =>
                  some r4) (
                  some false)) (
                some false)) (
              some false)) (
            some false)) (
          some false)) (
        some false)) (
      some false)) (
    some false)

/-- spec.FindPacket -/
noncomputable def S_FindPacket (q : Queue) (id : Int) : Option Int :=
  Option.bind (iter (S := Int × Unit) (X := (Unit) ⊕ Int) (fun s1 =>
    cond (decide (s1.1 < (q.Items.length : Int))) (
      Option.bind (rdI q.Items s1.1) fun y2 =>
      cond (y2.Id == id) (
        some (.inr (.inr s1.1))) (
        some (.inl (W (s1.1 + 1), ())))) (
      some (.inr (.inl ())))) (0, ())) (sumE (fun e3 =>
  some (-1)) some)

/-- spec.PushPacket -/
noncomputable def S_PushPacket (q : Queue) (x : Packet) : Option (Queue × Bool) :=
  Option.bind (S_l24Copy q) fun r1 =>
  cond (decide ((q.Items.length : Int) ≥ 12)) (
    some (r1, false)) (
    Option.bind (S_FindPacket q x.Id) fun r2 =>
    cond (decide (r2 ≥ 0)) (
      some (r1, false)) (
      Option.bind (appE r1.Items ([x])) fun xs3 =>
      some ((⟨xs3⟩ : Queue), true)))

/-- spec.StepOffer -/
noncomputable def S_StepOffer (x0_ : Wd) (x1_ : Int) : Option (Wd × Bool) :=
  Option.bind (S_l33Copy x0_) fun r1 =>
  Option.bind (S_l33Flow x0_ x1_) fun r2 =>
  cond (decide (r2 < 0)) (
    some (r1, false)) (
    cond (decide (r2 ≥ (x0_.Counts.length : Int))) (
      some (r1, false)) (
      Option.bind (rdI x0_.Flows r2) fun y3 =>
      Option.bind (iter (S := Int × Int × Unit) (X := (Int × Unit) ⊕ (Wd × Bool)) (fun s4 =>
        cond (decide (s4.2.1 < (x0_.Counts.length : Int))) (
          Option.bind (rdI x0_.Counts s4.2.1) fun y5 =>
          some (.inl (W (s4.1 + y5), W (s4.2.1 + 1), ()))) (
          some (.inr (.inl (s4.1, ()))))) (0, 0, ())) (sumE (fun e6 =>
      Option.bind (rdI x0_.Counts r2) fun y7 =>
      Option.bind (S_IsPacket (⟨e6.1, y3.Id, y7, y3.Src, y3.Dst, y3.Class⟩ : Packet) x0_.Program.Nodes) fun r8 =>
      cond (!r8) (
        some (r1, false)) (
        cond (decide (y3.Src ≥ (x0_.Queues.length : Int))) (
          some (r1, false)) (
          Option.bind (rdI x0_.Queues y3.Src) fun y9 =>
          Option.bind (S_PushPacket y9 (⟨e6.1, y3.Id, y7, y3.Src, y3.Dst, y3.Class⟩ : Packet)) fun r10 =>
          cond (!r10.2) (
            some (r1, false)) (
            Option.bind (rdI r1.Queues y3.Src) fun y11 =>
            Option.bind (rdI x0_.Counts r2) fun y12 =>
            Option.bind (rdI r1.Counts r2) fun y13 =>
            some ({ r1 with Queues := List.set r1.Queues (y3.Src).toNat r10.1, Counts := List.set r1.Counts (r2).toNat (W (y12 + 1)) }, true))))) some)))

/-- slices.IndexFunc[[]impl.Flow,impl.Flow] -/
noncomputable def IndexFunc_Flow (s : List Flow) (f : (HL [(.st .flow)] → Option Bool)) : Option Int :=
  Option.bind (iter (S := Int × Unit) (X := (Unit) ⊕ Int) (fun s1 =>
    cond (decide (s1.1 < (s.length : Int))) (
      Option.bind (rdI s s1.1) fun y2 =>
      Option.bind (f (y2, ())) fun r3 =>
      cond r3 (
        some (.inr (.inr s1.1))) (
        some (.inl (W (s1.1 + 1), ())))) (
      some (.inr (.inl ())))) (0, ())) (sumE (fun e4 =>
  some (-1)) some)

/-- impl.flowAt$1 -/
noncomputable def I_flowAt_1 (f : Flow) (x1_ : Int) : Option Bool :=
  some (f.Id == x1_)

/-- impl.flowAt -/
noncomputable def I_flowAt (w : Wd) (id : Int) : Option Int :=
  Option.bind (IndexFunc_Flow w.Flows (fun a1 => (I_flowAt_1 a1.1 id).map fun o2 => o2)) fun r3 =>
  some r3

/-- impl.sumOf -/
noncomputable def I_sumOf (l : List Int) : Option Int :=
  Option.bind (iter (S := Int × Int × Unit) (X := (Int × Unit) ⊕ Int) (fun s1 =>
    cond (decide (s1.2.1 < (l.length : Int))) (
      Option.bind (rdI l s1.2.1) fun y2 =>
      some (.inl (W (s1.1 + y2), W (s1.2.1 + 1), ()))) (
      some (.inr (.inl (s1.1, ()))))) (0, 0, ())) (sumE (fun e3 =>
  some e3.1) some)

/-- slices.IndexFunc[[]impl.Packet,impl.Packet] -/
noncomputable def IndexFunc_Packet (s : List Packet) (f : (HL [(.st .packet)] → Option Bool)) : Option Int :=
  Option.bind (iter (S := Int × Unit) (X := (Unit) ⊕ Int) (fun s1 =>
    cond (decide (s1.1 < (s.length : Int))) (
      Option.bind (rdI s s1.1) fun y2 =>
      Option.bind (f (y2, ())) fun r3 =>
      cond r3 (
        some (.inr (.inr s1.1))) (
        some (.inl (W (s1.1 + 1), ())))) (
      some (.inr (.inl ())))) (0, ())) (sumE (fun e4 =>
  some (-1)) some)

/-- impl.FindPacket$1 -/
noncomputable def I_FindPacket_1 (x : Packet) (x1_ : Int) : Option Bool :=
  some (x.Id == x1_)

/-- impl.FindPacket -/
noncomputable def I_FindPacket (q : Queue) (id : Int) : Option Int :=
  Option.bind (IndexFunc_Packet q.Items (fun a1 => (I_FindPacket_1 a1.1 id).map fun o2 => o2)) fun r3 =>
  some r3

/-- impl.PushPacket -/
noncomputable def I_PushPacket (q : Queue) (x : Packet) : Option (Queue × Bool) :=
  Option.bind (I_cloneQueue q) fun r1 =>
  cond (decide ((q.Items.length : Int) ≥ 12)) (
    some (r1, false)) (
    Option.bind (I_FindPacket q x.Id) fun r2 =>
    cond (decide (r2 ≥ 0)) (
      some (r1, false)) (
      Option.bind (appE r1.Items ([x])) fun xs3 =>
      some ((⟨xs3⟩ : Queue), true)))

/-- impl.IsPacket -/
noncomputable def I_IsPacket (x : Packet) (nodes : Int) : Option Bool :=
  Option.bind (I_InRange x.Id 0 9999) fun r1 =>
  cond r1 (
    Option.bind (I_InRange x.Flow 0 9999) fun r2 =>
    cond r2 (
      Option.bind (I_InRange x.Seq 0 9999) fun r3 =>
      cond r3 (
        Option.bind (I_isIndex x.Src nodes) fun r4 =>
        cond r4 (
          Option.bind (I_isIndex x.Dst nodes) fun r5 =>
          cond r5 (
            cond (!(x.Src == x.Dst)) (
              Option.bind (I_InRange x.Class 0 1) fun r6 =>
              some r6) (
              some false)) (
            some false)) (
          some false)) (
        some false)) (
      some false)) (
    some false)

/-- impl.StepOffer -/
noncomputable def I_StepOffer (x0_ : Wd) (x1_ : Int) : Option (Wd × Bool) :=
  Option.bind (I_cloneWorld x0_) fun r1 =>
  Option.bind (I_flowAt x0_ x1_) fun r2 =>
  cond (decide (r2 < 0)) (
    some (r1, false)) (
    cond (decide (r2 ≥ (x0_.Counts.length : Int))) (
      some (r1, false)) (
      Option.bind (rdI x0_.Flows r2) fun y3 =>
      Option.bind (I_isIndex y3.Src (x0_.Queues.length : Int)) fun r4 =>
      cond (!r4) (
        some (r1, false)) (
        Option.bind (rdI x0_.Flows r2) fun y5 =>
        Option.bind (I_sumOf x0_.Counts) fun r6 =>
        Option.bind (rdI x0_.Counts r2) fun y7 =>
        Option.bind (rdI x0_.Queues y5.Src) fun y8 =>
        Option.bind (I_PushPacket y8 (⟨r6, x1_, y7, y5.Src, y5.Dst, y5.Class⟩ : Packet)) fun r9 =>
        cond (!r9.2) (
          some (r1, false)) (
          Option.bind (I_IsPacket (⟨r6, x1_, y7, y5.Src, y5.Dst, y5.Class⟩ : Packet) x0_.Program.Nodes) fun r10 =>
          cond (!r10) (
            some (r1, false)) (
            Option.bind (rdI r1.Queues y5.Src) fun y11 =>
            Option.bind (rdI r1.Counts r2) fun y12 =>
            Option.bind (rdI r1.Counts r2) fun y13 =>
            some ({ r1 with Queues := List.set r1.Queues (y5.Src).toNat r9.1, Counts := List.set r1.Counts (r2).toNat (W (y12 + 1)) }, true))))))

/-- laws.FnExactStepOffer -/
noncomputable def L_FnExactStepOffer (x0_ : Wd) (x1_ : Int) : Option Bool :=
  Option.bind (L_szWorld x0_ 1048576) fun r1 =>
  cond (decide (r1 < 0)) (
    some true) (
    Option.bind (L_toWorld x0_) fun r2 =>
    Option.bind (S_StepOffer r2 x1_) fun r3 =>
    Option.bind (L_toWorld x0_) fun r4 =>
    Option.bind (I_StepOffer r4 x1_) fun r5 =>
    Option.bind (L_eqWorld r5.1 r3.1) fun r6 =>
    cond (!r6) (
      some false) (
      cond (!(r5.2 == r3.2)) (
        some false) (
        Option.bind (L_toWorld x0_) fun r7 =>
        Option.bind (L_eqWorld r4 r7) fun r8 =>
        cond (!r8) (
          some false) (
          Option.bind (L_markWorld r4 1) fun r9 =>
          cond (decide (r9.2 < 0)) (
            some false) (
            Option.bind (L_eqWorld r5.1 r3.1) fun r10 =>
            cond (!r10) (
              some false) (
              cond (!(r5.2 == r3.2)) (
                some false) (
                Option.bind (L_markWorld r5.1 1) fun r11 =>
                Option.bind (L_heldWorld r11.1 1) fun r12 =>
                cond (decide (r12 < 0)) (
                  some false) (
                  cond (!(r12 == r11.2)) (
                    some false) (
                    Option.bind (L_toWorld x0_) fun r13 =>
                    Option.bind (I_StepOffer r13 x1_) fun r14 =>
                    Option.bind (L_eqWorld r14.1 r3.1) fun r15 =>
                    cond (!r15) (
                      some false) (
                      cond (!(r14.2 == r3.2)) (
                        some false) (
                        Option.bind (L_heldWorld r11.1 1) fun r16 =>
                        cond (decide (r16 < 0)) (
                          some false) (
                          cond (!(r16 == r11.2)) (
                            some false) (
                            some true)))))))))))))

/-- spec.IsFlow -/
noncomputable def S_IsFlow (f : Flow) (nodes : Int) : Option Bool :=
  Option.bind (S_l1In f.Id 0 9999) fun r1 =>
  cond r1 (
    cond (decide (f.Src ≥ 0)) (
      cond (decide (f.Src < nodes)) (
        cond (decide (f.Dst ≥ 0)) (
          cond (decide (f.Dst < nodes)) (
            cond (!(f.Src == f.Dst)) (
              Option.bind (S_l1In f.Class 0 1) fun r2 =>
              some r2) (
              some false)) (
            some false)) (
          some false)) (
        some false)) (
      some false)) (
    some false)

/-- spec.TableIn -/
noncomputable def S_TableIn (p : Prog) (k : Int) (dst : Int) : Option (Table × Bool) :=
  Option.bind (S_l1In k 0 (W ((p.Pieces.length : Int) - 1))) fun r1 =>
  cond (!r1) (
    some ((⟨0, ([] : List Int), ([] : List Int)⟩ : Table), false)) (
    Option.bind (rdI p.Pieces k) fun y2 =>
    Option.bind (S_l1In dst 0 (W ((y2.Tables.length : Int) - 1))) fun r3 =>
    cond (!r3) (
      some ((⟨0, ([] : List Int), ([] : List Int)⟩ : Table), false)) (
      Option.bind (rdI p.Pieces k) fun y4 =>
      Option.bind (rdI y4.Tables dst) fun y5 =>
      Option.bind (S_l15Copy y5) fun r6 =>
      some (r6, true)))

/-- spec.PathTo -/
noncomputable def S_PathTo (next : List Int) (from_ : Int) (dst : Int) : Option (List Int) :=
  Option.bind (iter (S := List Int × Int × Unit) (X := (Unit) ⊕ (List Int)) (fun s1 =>
    cond (decide ((s1.1.length : Int) ≤ (next.length : Int))) (
      Option.bind (S_l1In s1.2.1 0 (W ((next.length : Int) - 1))) fun r2 =>
      cond r2 (
        Option.bind (appE s1.1 ([s1.2.1])) fun xs3 =>
        cond (s1.2.1 == dst) (
          some (.inr (.inr xs3))) (
          Option.bind (rdI next s1.2.1) fun y4 =>
          some (.inl (xs3, y4, ())))) (
        some (.inr (.inl ())))) (
      some (.inr (.inl ())))) (([] : List Int), from_, ())) (sumE (fun e5 =>
  some ([] : List Int)) some)

/-- spec.RouteOf -/
noncomputable def S_RouteOf (t : Table) (from_ : Int) : Option (List Int) :=
  Option.bind (S_PathTo t.Next from_ t.Dst) fun r1 =>
  some r1

/-- spec.RouteIn -/
noncomputable def S_RouteIn (p : Prog) (k : Int) (f : Flow) : Option (List Int) :=
  Option.bind (S_TableIn p k f.Dst) fun r1 =>
  cond (!r1.2) (
    some ([] : List Int)) (
    Option.bind (S_RouteOf r1.1 f.Src) fun r2 =>
    some r2)

/-- spec.ReservedOn -/
noncomputable def S_ReservedOn (p : Prog) (l : List Flow) (k : Int) (a : Int) (b : Int) : Option Int :=
  Option.bind (iter (S := Int × Int × Unit) (X := (Int × Unit) ⊕ Int) (fun s1 =>
    cond (decide (s1.2.1 < (l.length : Int))) (
      Option.bind (rdI l s1.2.1) fun y2 =>
      cond (!(y2.Class == 1)) (
        some (.inl (s1.1, W (s1.2.1 + 1), ()))) (
        Option.bind (rdI l s1.2.1) fun y3 =>
        Option.bind (S_RouteIn p k y3) fun r4 =>
        Option.bind (iter (S := Int × Int × Unit) (X := (Int × Unit) ⊕ ((Int × Int × Unit) ⊕ ((Int × Unit) ⊕ Int))) (fun s5 =>
          cond (decide (s5.2.1 < (r4.length : Int))) (
            Option.bind (rdI r4 (W (s5.2.1 - 1))) fun y6 =>
            cond (y6 == a) (
              Option.bind (rdI r4 s5.2.1) fun y7 =>
              cond (y7 == b) (
                some (.inl (W (s5.1 + 1), W (s5.2.1 + 1), ()))) (
                some (.inl (s5.1, W (s5.2.1 + 1), ())))) (
              some (.inl (s5.1, W (s5.2.1 + 1), ())))) (
            some (.inr (.inl (s5.1, ()))))) (s1.1, 1, ())) (sumE (fun e8 =>
        some (.inl (e8.1, W (s1.2.1 + 1), ()))) some))) (
      some (.inr (.inl (s1.1, ()))))) (0, 0, ())) (sumE (fun e9 =>
  some e9.1) some)

/-- spec.HasRoom -/
noncomputable def S_HasRoom (p : Prog) (l : List Flow) (f : Flow) (limit : Int) : Option Bool :=
  Option.bind (iter (S := Int × Unit) (X := (Unit) ⊕ Bool) (fun s1 =>
    cond (decide (s1.1 < (p.Pieces.length : Int))) (
      Option.bind (S_RouteIn p s1.1 f) fun r2 =>
      Option.bind (iter (S := Int × Unit) (X := (Unit) ⊕ ((Int × Unit) ⊕ ((Unit) ⊕ Bool))) (fun s3 =>
        cond (decide (s3.1 < (r2.length : Int))) (
          Option.bind (rdI r2 (W (s3.1 - 1))) fun y4 =>
          Option.bind (rdI r2 s3.1) fun y5 =>
          Option.bind (S_ReservedOn p l s1.1 y4 y5) fun r6 =>
          cond (decide (r6 ≥ limit)) (
            some (.inr (.inr (.inr (.inr false))))) (
            some (.inl (W (s3.1 + 1), ())))) (
          some (.inr (.inl ())))) (1, ())) (sumE (fun e7 =>
      some (.inl (W (s1.1 + 1), ()))) some)) (
      some (.inr (.inl ())))) (0, ())) (sumE (fun e8 =>
  some true) some)

/-- spec.AdmitFlow -/
noncomputable def S_AdmitFlow (p : Prog) (l : List Flow) (f : Flow) (limit : Int) : Option (List Flow × Bool) :=
  Option.bind (appE ([] : List Flow) l) fun xs1 =>
  Option.bind (S_IsFlow f p.Nodes) fun r2 =>
  cond (!r2) (
    some (xs1, false)) (
    cond (decide ((l.length : Int) ≥ 8)) (
      some (xs1, false)) (
      Option.bind (iter (S := Int × Unit) (X := (Unit) ⊕ (List Flow × Bool)) (fun s3 =>
        cond (decide (s3.1 < (l.length : Int))) (
          Option.bind (rdI l s3.1) fun y4 =>
          cond (y4.Id == f.Id) (
            some (.inr (.inr (xs1, false)))) (
            some (.inl (W (s3.1 + 1), ())))) (
          some (.inr (.inl ())))) (0, ())) (sumE (fun e5 =>
      Option.bind (α := (Unit) ⊕ (List Flow × Bool)) (
        cond (f.Class == 1) (
          Option.bind (S_HasRoom p l f limit) fun r6 =>
          cond (!r6) (
            some (.inr (xs1, false))) (
            some (.inl ()))) (
          some (.inl ()))) (sumE (fun j7 =>
      Option.bind (appE xs1 ([f])) fun xs8 =>
      some (xs8, true)) some)) some)))

/-- spec.l15Has -/
noncomputable def S_l15Has (l : List Int) (n : Int) : Option Bool :=
  Option.bind (iter (S := Int × Unit) (X := (Unit) ⊕ Bool) (fun s1 =>
    cond (decide (s1.1 < (l.length : Int))) (
      Option.bind (rdI l s1.1) fun y2 =>
      cond (y2 == n) (
        some (.inr (.inr true))) (
        some (.inl (W (s1.1 + 1), ())))) (
      some (.inr (.inl ())))) (0, ())) (sumE (fun e3 =>
  some false) some)

/-- spec.IsLanding -/
noncomputable def S_IsLanding (x : Law) (p : Prog) (node : Int) : Option Bool :=
  cond (decide (node ≥ 0)) (
    cond (decide (node < p.Nodes)) (
      cond (decide (node < p.First)) (
        some true) (
        Option.bind (S_l15Has x.Allowed node) fun r1 =>
        some r1)) (
      some false)) (
    some false)

/-- spec.StepFlow -/
noncomputable def S_StepFlow (w : Wd) (f : Flow) : Option (Wd × Bool) :=
  Option.bind (S_l33Copy w) fun r1 =>
  Option.bind (S_AdmitFlow w.Program w.Flows f 3) fun r2 =>
  cond (!r2.2) (
    some (r1, false)) (
    Option.bind (S_IsLanding w.Law w.Program f.Dst) fun r3 =>
    cond (!r3) (
      some (r1, false)) (
      Option.bind (appE r1.Counts ([0])) fun xs4 =>
      Option.bind (appE r1.Streams ([(⟨f.Id, 0, ([] : List Int)⟩ : Stream)])) fun xs5 =>
      some ({ r1 with Flows := r2.1, Counts := xs4, Streams := xs5 }, true)))

/-- impl.IsFlow -/
noncomputable def I_IsFlow (f : Flow) (nodes : Int) : Option Bool :=
  Option.bind (I_InRange f.Id 0 9999) fun r1 =>
  cond r1 (
    Option.bind (I_isIndex f.Src nodes) fun r2 =>
    cond r2 (
      Option.bind (I_isIndex f.Dst nodes) fun r3 =>
      cond r3 (
        cond (!(f.Src == f.Dst)) (
          Option.bind (I_InRange f.Class 0 1) fun r4 =>
          some r4) (
          some false)) (
        some false)) (
      some false)) (
    some false)

/-- slices.ContainsFunc[[]impl.Flow,impl.Flow] -/
noncomputable def ContainsFunc_Flow (s : List Flow) (f : (HL [(.st .flow)] → Option Bool)) : Option Bool :=
  Option.bind (IndexFunc_Flow s (f)) fun r1 =>
  some (decide (r1 ≥ 0))

/-- impl.AdmitFlow$1 -/
noncomputable def I_AdmitFlow_1 (x : Flow) (x1_ : Flow) : Option Bool :=
  some (x.Id == x1_.Id)

/-- impl.TableIn -/
noncomputable def I_TableIn (p : Prog) (k : Int) (dst : Int) : Option (Table × Bool) :=
  Option.bind (I_isIndex k (p.Pieces.length : Int)) fun r1 =>
  cond (!r1) (
    some ((⟨0, ([] : List Int), ([] : List Int)⟩ : Table), false)) (
    Option.bind (rdI p.Pieces k) fun y2 =>
    Option.bind (I_isIndex dst (y2.Tables.length : Int)) fun r3 =>
    cond (!r3) (
      some ((⟨0, ([] : List Int), ([] : List Int)⟩ : Table), false)) (
      Option.bind (rdI p.Pieces k) fun y4 =>
      Option.bind (rdI y4.Tables dst) fun y5 =>
      Option.bind (I_cloneTable y5) fun r6 =>
      some (r6, true)))

/-- impl.PathTo -/
noncomputable def I_PathTo (next : List Int) (from_ : Int) (dst : Int) : Option (List Int) :=
  Option.bind (iter (S := Int × List Int × Unit) (X := (Unit) ⊕ (List Int)) (fun s1 =>
    cond (decide ((s1.2.1.length : Int) ≤ (next.length : Int))) (
      Option.bind (I_isIndex s1.1 (next.length : Int)) fun r2 =>
      cond r2 (
        Option.bind (appE s1.2.1 ([s1.1])) fun xs3 =>
        cond (s1.1 == dst) (
          some (.inr (.inr xs3))) (
          Option.bind (rdI next s1.1) fun y4 =>
          some (.inl (y4, xs3, ())))) (
        some (.inr (.inl ())))) (
      some (.inr (.inl ())))) (from_, ([] : List Int), ())) (sumE (fun e5 =>
  some ([] : List Int)) some)

/-- impl.RouteOf -/
noncomputable def I_RouteOf (t : Table) (from_ : Int) : Option (List Int) :=
  Option.bind (I_PathTo t.Next from_ t.Dst) fun r1 =>
  some r1

/-- impl.RouteIn -/
noncomputable def I_RouteIn (p : Prog) (k : Int) (f : Flow) : Option (List Int) :=
  Option.bind (I_TableIn p k f.Dst) fun r1 =>
  cond (!r1.2) (
    some ([] : List Int)) (
    Option.bind (I_RouteOf r1.1 f.Src) fun r2 =>
    some r2)

/-- impl.goes -/
noncomputable def I_goes (route : List Int) (a : Int) (b : Int) : Option Bool :=
  Option.bind (iter (S := Int × Unit) (X := (Unit) ⊕ Bool) (fun s1 =>
    cond (decide (s1.1 < (route.length : Int))) (
      Option.bind (rdI route (W (s1.1 - 1))) fun y2 =>
      cond (y2 == a) (
        Option.bind (rdI route s1.1) fun y3 =>
        cond (y3 == b) (
          some (.inr (.inr true))) (
          some (.inl (W (s1.1 + 1), ())))) (
        some (.inl (W (s1.1 + 1), ())))) (
      some (.inr (.inl ())))) (1, ())) (sumE (fun e4 =>
  some false) some)

/-- impl.ReservedOn -/
noncomputable def I_ReservedOn (p : Prog) (l : List Flow) (k : Int) (a : Int) (b : Int) : Option Int :=
  Option.bind (iter (S := Int × Int × Unit) (X := (Int × Unit) ⊕ Int) (fun s1 =>
    cond (decide (s1.2.1 < (l.length : Int))) (
      Option.bind (rdI l s1.2.1) fun y2 =>
      cond (y2.Class == 1) (
        Option.bind (I_RouteIn p k y2) fun r3 =>
        Option.bind (I_goes r3 a b) fun r4 =>
        cond r4 (
          some (.inl (W (s1.1 + 1), W (s1.2.1 + 1), ()))) (
          some (.inl (s1.1, W (s1.2.1 + 1), ())))) (
        some (.inl (s1.1, W (s1.2.1 + 1), ())))) (
      some (.inr (.inl (s1.1, ()))))) (0, 0, ())) (sumE (fun e5 =>
  some e5.1) some)

/-- impl.HasRoom -/
noncomputable def I_HasRoom (p : Prog) (l : List Flow) (f : Flow) (limit : Int) : Option Bool :=
  Option.bind (iter (S := Int × Unit) (X := (Unit) ⊕ Bool) (fun s1 =>
    cond (decide (s1.1 < (p.Pieces.length : Int))) (
      Option.bind (I_RouteIn p s1.1 f) fun r2 =>
      Option.bind (iter (S := Int × Unit) (X := (Unit) ⊕ ((Int × Unit) ⊕ ((Unit) ⊕ Bool))) (fun s3 =>
        cond (decide (s3.1 < (r2.length : Int))) (
          Option.bind (rdI r2 (W (s3.1 - 1))) fun y4 =>
          Option.bind (rdI r2 s3.1) fun y5 =>
          Option.bind (I_ReservedOn p l s1.1 y4 y5) fun r6 =>
          cond (decide (r6 ≥ limit)) (
            some (.inr (.inr (.inr (.inr false))))) (
            some (.inl (W (s3.1 + 1), ())))) (
          some (.inr (.inl ())))) (1, ())) (sumE (fun e7 =>
      some (.inl (W (s1.1 + 1), ()))) some)) (
      some (.inr (.inl ())))) (0, ())) (sumE (fun e8 =>
  some true) some)

/-- impl.AdmitFlow -/
noncomputable def I_AdmitFlow (p : Prog) (l : List Flow) (f : Flow) (limit : Int) : Option (List Flow × Bool) :=
  Option.bind (Clone l) fun r1 =>
  Option.bind (α := (Unit) ⊕ (List Flow × Bool)) (
    Option.bind (I_IsFlow f p.Nodes) fun r2 =>
    cond (!r2) (
      some (.inr (r1, false))) (
      cond (decide ((l.length : Int) ≥ 8)) (
        some (.inr (r1, false))) (
        Option.bind (ContainsFunc_Flow l (fun a3 => (I_AdmitFlow_1 a3.1 f).map fun o4 => o4)) fun r5 =>
        cond r5 (
          some (.inr (r1, false))) (
          cond (f.Class == 1) (
            Option.bind (I_HasRoom p l f limit) fun r6 =>
            cond (!r6) (
              some (.inr (r1, false))) (
              some (.inl ()))) (
            some (.inl ())))))) (sumE (fun j7 =>
  Option.bind (appE r1 ([f])) fun xs8 =>
  some (xs8, true)) some)

/-- slices.Index[[]int,int] -/
noncomputable def Index_int (s : List Int) (v : Int) : Option Int :=
  Option.bind (iter (S := Int × Unit) (X := (Unit) ⊕ Int) (fun s1 =>
    cond (decide (s1.1 < (s.length : Int))) (
      Option.bind (rdI s s1.1) fun y2 =>
      cond (v == y2) (
        some (.inr (.inr s1.1))) (
        some (.inl (W (s1.1 + 1), ())))) (
      some (.inr (.inl ())))) (0, ())) (sumE (fun e3 =>
  some (-1)) some)

/-- slices.Contains[[]int,int] -/
noncomputable def Contains_int (s : List Int) (v : Int) : Option Bool :=
  Option.bind (Index_int s v) fun r1 =>
  some (decide (r1 ≥ 0))

/-- impl.IsLanding -/
noncomputable def I_IsLanding (x : Law) (p : Prog) (node : Int) : Option Bool :=
  Option.bind (I_isIndex node p.Nodes) fun r1 =>
  cond r1 (
    cond (decide (node < p.First)) (
      some true) (
      Option.bind (Contains_int x.Allowed node) fun r2 =>
      some r2)) (
    some false)

/-- impl.StepFlow -/
noncomputable def I_StepFlow (w : Wd) (f : Flow) : Option (Wd × Bool) :=
  Option.bind (I_cloneWorld w) fun r1 =>
  Option.bind (I_AdmitFlow w.Program w.Flows f 3) fun r2 =>
  cond (!r2.2) (
    Option.bind (I_cloneWorld w) fun r3 =>
    some (r3, false)) (
    Option.bind (I_IsLanding w.Law w.Program f.Dst) fun r4 =>
    cond (!r4) (
      Option.bind (I_cloneWorld w) fun r5 =>
      some (r5, false)) (
      Option.bind (appE r1.Counts ([0])) fun xs6 =>
      Option.bind (appE r1.Streams ([(⟨f.Id, 0, ([] : List Int)⟩ : Stream)])) fun xs7 =>
      some ({ r1 with Flows := r2.1, Counts := xs6, Streams := xs7 }, true)))

/-- laws.FnExactStepFlow -/
noncomputable def L_FnExactStepFlow (x0_ : Wd) (x1_ : Flow) : Option Bool :=
  Option.bind (L_szWorld x0_ 1048576) fun r1 =>
  cond (decide (r1 < 0)) (
    some true) (
    Option.bind (L_toWorld x0_) fun r2 =>
    Option.bind (L_toFlow x1_) fun r3 =>
    Option.bind (S_StepFlow r2 r3) fun r4 =>
    Option.bind (L_toWorld x0_) fun r5 =>
    Option.bind (L_toFlow x1_) fun r6 =>
    Option.bind (I_StepFlow r5 r6) fun r7 =>
    Option.bind (L_eqWorld r7.1 r4.1) fun r8 =>
    cond (!r8) (
      some false) (
      cond (!(r7.2 == r4.2)) (
        some false) (
        Option.bind (L_toWorld x0_) fun r9 =>
        Option.bind (L_eqWorld r5 r9) fun r10 =>
        cond (!r10) (
          some false) (
          Option.bind (L_markWorld r5 1) fun r11 =>
          cond (decide (r11.2 < 0)) (
            some false) (
            Option.bind (L_eqWorld r7.1 r4.1) fun r12 =>
            cond (!r12) (
              some false) (
              cond (!(r7.2 == r4.2)) (
                some false) (
                Option.bind (L_markWorld r7.1 1) fun r13 =>
                Option.bind (L_heldWorld r13.1 1) fun r14 =>
                cond (decide (r14 < 0)) (
                  some false) (
                  cond (!(r14 == r13.2)) (
                    some false) (
                    Option.bind (L_toWorld x0_) fun r15 =>
                    Option.bind (L_toFlow x1_) fun r16 =>
                    Option.bind (I_StepFlow r15 r16) fun r17 =>
                    Option.bind (L_eqWorld r17.1 r4.1) fun r18 =>
                    cond (!r18) (
                      some false) (
                      cond (!(r17.2 == r4.2)) (
                        some false) (
                        Option.bind (L_heldWorld r13.1 1) fun r19 =>
                        cond (decide (r19 < 0)) (
                          some false) (
                          cond (!(r19 == r13.2)) (
                            some false) (
                            some true)))))))))))))
end Net
